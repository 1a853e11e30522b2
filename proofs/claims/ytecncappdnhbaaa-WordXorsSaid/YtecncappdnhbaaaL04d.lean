/- WordXors: the law's run. -/
import Derived.Test.YtecncappdnhbaaaL04c
import Derived.Test.YtecncappdnhbaaaAbIn
set_option autoImplicit false
set_option linter.unusedVariables false
set_option linter.unusedSimpArgs false
set_option maxRecDepth 100000
noncomputable section
namespace Go.Proofs.Ytecncappdnhbaaa
open Go.Ab.M Go.Ab Go
theorem word_xors (a0 : Bool) (l0 : Nat) (cs0 : List AV) (a1 : Bool) (l1 : Nat) (cs1 : List AV) (h0 : (iltB (Int.ofNat 200) (Int.ofNat l0)) = false) (h1 : (iltB (Int.ofNat 200) (Int.ofNat l1)) = false) (h2 : (AV.plainL cs0) = true) (h3 : (AV.plainL cs1) = true) (h4 : (u8L cs0) = true) (h5 : (cs0.length.beq l0) = true) (h6 : (u8L cs1) = true) (h7 : (cs1.length.beq l1) = true) (h8 : (l0.ble 1000) = true) (h9 : (l1.ble 1000) = true) (h10 : (!ieqB (Int.ofNat (minI (Int.ofNat l0) (Int.ofNat l1)).toNat) (minI (Int.ofNat l0) (Int.ofNat l1))) = false) (h11 : (cs0.length.beq (l0.mul 1)) = true) (h12 : (ileB (Int.ofNat 0) (minI (Int.ofNat l0) (Int.ofNat l1))) = true) (h13 : ((minI (Int.ofNat l0) (Int.ofNat l1)).toNat.ble l0) = true) (h14 : ((rowCut cs0 0 (((minI (Int.ofNat l0) (Int.ofNat l1)).toNat - 0) * 1)).length.beq ((minI (Int.ofNat l0) (Int.ofNat l1)).toNat - 0)) = true) (h15 : ((bytesOf (rowCut cs0 0 (((minI (Int.ofNat l0) (Int.ofNat l1)).toNat - 0) * 1))).isSome) = true) (h16 : ((0 + (minI (Int.ofNat l0) (Int.ofNat l1)).toNat * 1).ble (minI (Int.ofNat l0) (Int.ofNat l1)).toNat) = true) (h17 : (AV.plainL (kept (ofBytes (xorB (minI (Int.ofNat l0) (Int.ofNat l1)).toNat (bytesL cs0) (bytesL cs1))))) = true) (h18 : (u8L (rowCut (kept (ofBytes (xorB (minI (Int.ofNat l0) (Int.ofNat l1)).toNat (bytesL cs0) (bytesL cs1)))) 0 ((minI (Int.ofNat l0) (Int.ofNat l1)).toNat * 1))) = true) (h19 : ((rowCut (kept (ofBytes (xorB (minI (Int.ofNat l0) (Int.ofNat l1)).toNat (bytesL cs0) (bytesL cs1)))) 0 ((minI (Int.ofNat l0) (Int.ofNat l1)).toNat * 1)).length.beq (minI (Int.ofNat l0) (Int.ofNat l1)).toNat) = true) (h20 : ((minI (Int.ofNat l0) (Int.ofNat l1)).toNat.ble 1000) = true) (h21 : ((0 + (minI (Int.ofNat (minI (Int.ofNat l0) (Int.ofNat l1)).toNat) (Int.ofNat l1)).toNat).ble (minI (Int.ofNat (minI (Int.ofNat l0) (Int.ofNat l1)).toNat) (Int.ofNat l1)).toNat) = true) (h22 : ((bytesOf (rowCut (kept (ofBytes (xorB (minI (Int.ofNat (minI (Int.ofNat l0) (Int.ofNat l1)).toNat) (Int.ofNat l1)).toNat (bytesL (rowCut (kept (ofBytes (xorB (minI (Int.ofNat l0) (Int.ofNat l1)).toNat (bytesL cs0) (bytesL cs1)))) 0 ((minI (Int.ofNat l0) (Int.ofNat l1)).toNat * 1))) (bytesL cs1)))) 0 (minI (Int.ofNat (minI (Int.ofNat l0) (Int.ofNat l1)).toNat) (Int.ofNat l1)).toNat)).isSome) = true) (h23 : (!bytesEq ((bytesOf (rowCut (kept (ofBytes (xorB (minI (Int.ofNat (minI (Int.ofNat l0) (Int.ofNat l1)).toNat) (Int.ofNat l1)).toNat (bytesL (rowCut (kept (ofBytes (xorB (minI (Int.ofNat l0) (Int.ofNat l1)).toNat (bytesL cs0) (bytesL cs1)))) 0 ((minI (Int.ofNat l0) (Int.ofNat l1)).toNat * 1))) (bytesL cs1)))) 0 (minI (Int.ofNat (minI (Int.ofNat l0) (Int.ofNat l1)).toNat) (Int.ofNat l1)).toNat)).getD []) ((bytesOf (rowCut cs0 0 (((minI (Int.ofNat l0) (Int.ofNat l1)).toNat - 0) * 1))).getD [])) = false) (h24 : (AV.plainL [AV.fsl a0 l0 cs0, AV.fsl a1 l1 cs1, AV.int IntKind.i64 (minI (Int.ofNat l0) (Int.ofNat l1)), AV.int IntKind.i64 (Int.ofNat (minI (Int.ofNat l0) (Int.ofNat l1)).toNat), AV.int IntKind.i64 (Int.ofNat 0)]) = true) (h25 : ((minI (Int.ofNat l0) (Int.ofNat l1)).toNat.beq (minI (Int.ofNat l0) (Int.ofNat l1)).toNat) = true) (h26 : (u8L (kept (ofBytes (xorB (minI (Int.ofNat l0) (Int.ofNat l1)).toNat (bytesL cs0) (bytesL cs1))))) = true) (h27 : ((minI (Int.ofNat l0) (Int.ofNat l1)).toNat.ble l1) = true) (h28 : (eqXor (minI (Int.ofNat l0) (Int.ofNat l1)).toNat (kept (ofBytes (xorB (minI (Int.ofNat l0) (Int.ofNat l1)).toNat (bytesL cs0) (bytesL cs1)))) cs0 cs1) = true) (h29 : ((minI (Int.ofNat l0) (Int.ofNat l1)).toNat.ble 1000000000000) = true) (h30 : (cs1.length.beq (l1.mul 1)) = true) (h31 : ((rowCut cs1 0 (((minI (Int.ofNat l0) (Int.ofNat l1)).toNat - 0) * 1)).length.beq ((minI (Int.ofNat l0) (Int.ofNat l1)).toNat - 0)) = true) (h32 : ((bytesOf (rowCut cs1 0 (((minI (Int.ofNat l0) (Int.ofNat l1)).toNat - 0) * 1))).isSome) = true) (h33 : (zeroL (rowCut (kept (ofBytes (xorB (minI (Int.ofNat l0) (Int.ofNat l1)).toNat (bytesL cs0) (bytesL cs1)))) 0 ((minI (Int.ofNat l0) (Int.ofNat l1)).toNat * 1)) == bytesEq ((bytesOf (rowCut cs0 0 (((minI (Int.ofNat l0) (Int.ofNat l1)).toNat - 0) * 1))).getD []) ((bytesOf (rowCut cs1 0 (((minI (Int.ofNat l0) (Int.ofNat l1)).toNat - 0) * 1))).getD [])) = true) :
    ∃ h', aCall C04 60 (Tgt.fn 7) [AV.fsl a0 l0 cs0, AV.fsl a1 l1 cs1] H0 = some (AV.bool (zeroL []), h') ∧ [].map h'.get = [] :=
  call_runH (q := (oc 4 (.z :: (.z :: (.z :: (.z :: (.z :: (.y :: (.y :: (.y :: (.y :: (.y :: (.y :: (.y :: (.y :: (.z :: (.z :: (.z :: (.z :: (.z :: (.y :: (.y :: (.y :: (.z :: (.y :: (.y :: (.z :: (.y :: (.y :: (.y :: (.y :: (.y :: (.y :: (.y :: (.y :: (.y :: (.z :: (.y :: (.y :: (.z :: (.z :: (.y :: (.y :: (.y :: (.y :: (.y :: (.z :: (.y :: (.z :: (.y :: (.z :: (.y :: (.y :: (.z :: (.y :: (.y :: (.z :: (.y :: (.y :: (.y :: (.y :: (.y :: (.y :: (.y :: (.y :: (.z :: (.y :: (.y :: (.y :: (.y :: (.y :: (.y :: (.z :: (.z :: (.y :: (.y :: (.y :: (.z :: (.y :: (.z :: (.y :: (.z :: (oc 1 (.y :: (.y :: (.y :: (.y :: (.y :: (.y :: (.y :: (.y :: (.y :: (.y :: (.y :: (.y :: (.y :: (.y :: (.y :: (.y :: (.y :: (.y :: (.y :: (.y :: (.y :: (.y :: (.y :: (.y :: (.y :: (.y :: (.y :: (.y :: (.y :: (oc 3 (.y :: (.y :: (.y :: (.y :: (.y :: (.y :: (.y :: (.y :: (.y :: (.y :: (.y :: (.y :: (.y :: (.y :: (.y :: (.y :: (.y :: (.y :: (.y :: (.y :: (.y :: (.y :: (.y :: (.y :: (.y :: (.y :: (.y :: (.y :: (.y :: (.y :: (.y :: (.y :: (.y :: (.y :: (.y :: (.y :: (.y :: (.y :: (.y :: (.y :: (.y :: (.y :: (.y :: (.y :: (.y :: (.y :: []))))))))))))))))))))))))))))))))))))))))))))))))))))))))))))))))))))))))))))))))))))))))))))))))))))))))))))))))))))))))))))))))))))))))))))))))))))))))))))))) (c := (Cnd.tst _ false :: Cnd.tst _ false :: Cnd.tst _ false :: Cnd.tst _ false :: Cnd.tst _ false :: Cnd.tst _ true :: Cnd.tst _ true :: Cnd.tst _ true :: Cnd.tst _ true :: Cnd.tst _ true :: Cnd.tst _ true :: Cnd.tst _ true :: Cnd.tst _ true :: Cnd.tst _ false :: Cnd.tst _ false :: Cnd.tst _ false :: Cnd.tst _ false :: Cnd.tst _ false :: Cnd.tst _ true :: Cnd.tst _ true :: Cnd.tst _ true :: Cnd.tst _ false :: Cnd.tst _ true :: Cnd.tst _ true :: Cnd.tst _ false :: Cnd.tst _ true :: Cnd.tst _ true :: Cnd.tst _ true :: Cnd.tst _ true :: Cnd.tst _ true :: Cnd.tst _ true :: Cnd.tst _ true :: Cnd.tst _ true :: Cnd.tst _ true :: Cnd.tst _ false :: Cnd.tst _ true :: Cnd.tst _ true :: Cnd.tst _ false :: Cnd.tst _ false :: Cnd.same (AV.slice (some (0, 0)) (minI (Int.ofNat l0) (Int.ofNat l1)).toNat (some (minI (Int.ofNat l0) (Int.ofNat l1)).toNat)) (AV.slice (some (0, 0)) (minI (Int.ofNat l0) (Int.ofNat l1)).toNat (some (minI (Int.ofNat l0) (Int.ofNat l1)).toNat)) :: Cnd.same (AV.int IntKind.i64 (Int.ofNat (minI (Int.ofNat l0) (Int.ofNat l1)).toNat)) (AV.int IntKind.i64 (Int.ofNat (minI (Int.ofNat l0) (Int.ofNat l1)).toNat)) :: Cnd.same (AV.int IntKind.i64 (minI (Int.ofNat l0) (Int.ofNat l1))) (AV.int IntKind.i64 (minI (Int.ofNat l0) (Int.ofNat l1))) :: Cnd.same (AV.bool !ieqB (Int.ofNat (minI (Int.ofNat l0) (Int.ofNat l1)).toNat) (minI (Int.ofNat l0) (Int.ofNat l1))) (AV.bool !ieqB (Int.ofNat (minI (Int.ofNat l0) (Int.ofNat l1)).toNat) (minI (Int.ofNat l0) (Int.ofNat l1))) :: Cnd.same (AV.bool !ieqB (Int.ofNat (minI (Int.ofNat l0) (Int.ofNat l1)).toNat) (minI (Int.ofNat l0) (Int.ofNat l1))) (AV.bool !ieqB (Int.ofNat (minI (Int.ofNat l0) (Int.ofNat l1)).toNat) (minI (Int.ofNat l0) (Int.ofNat l1))) :: Cnd.tst _ false :: Cnd.same (AV.slice (some (0, 0)) (minI (Int.ofNat l0) (Int.ofNat l1)).toNat (some (minI (Int.ofNat l0) (Int.ofNat l1)).toNat)) (AV.slice (some (0, 0)) (minI (Int.ofNat l0) (Int.ofNat l1)).toNat (some (minI (Int.ofNat l0) (Int.ofNat l1)).toNat)) :: Cnd.tst _ false :: Cnd.same (AV.fsl a1 l1 cs1) (AV.fsl a1 l1 cs1) :: Cnd.tst _ false :: Cnd.same (AV.fsl a0 l0 cs0) (AV.fsl a0 l0 cs0) :: Cnd.same (AV.fsl a0 l0 cs0) (AV.fsl a0 l0 cs0) :: Cnd.tst _ false :: Cnd.same (AV.int IntKind.i64 (minI (Int.ofNat l0) (Int.ofNat l1))) (AV.int IntKind.i64 (minI (Int.ofNat l0) (Int.ofNat l1))) :: Cnd.same (AV.int IntKind.i64 (minI (Int.ofNat l0) (Int.ofNat l1))) (AV.int IntKind.i64 (minI (Int.ofNat l0) (Int.ofNat l1))) :: Cnd.tst _ false :: Cnd.tst _ true :: Cnd.tst _ true :: Cnd.tst _ true :: Cnd.same (AV.fsl a0 ((minI (Int.ofNat l0) (Int.ofNat l1)).toNat - 0) (rowCut cs0 0 (((minI (Int.ofNat l0) (Int.ofNat l1)).toNat - 0) * 1))) (AV.fsl a0 ((minI (Int.ofNat l0) (Int.ofNat l1)).toNat - 0) (rowCut cs0 0 (((minI (Int.ofNat l0) (Int.ofNat l1)).toNat - 0) * 1))) :: Cnd.tst _ true :: Cnd.tst _ true :: Cnd.tst _ true :: Cnd.same (AV.fsl a0 ((minI (Int.ofNat l0) (Int.ofNat l1)).toNat - 0) (rowCut cs0 0 (((minI (Int.ofNat l0) (Int.ofNat l1)).toNat - 0) * 1))) (AV.fsl a0 ((minI (Int.ofNat l0) (Int.ofNat l1)).toNat - 0) (rowCut cs0 0 (((minI (Int.ofNat l0) (Int.ofNat l1)).toNat - 0) * 1))) :: Cnd.tst _ false :: Cnd.tst _ true :: Cnd.tst _ true :: Cnd.same (AV.str ((bytesOf (rowCut cs0 0 (((minI (Int.ofNat l0) (Int.ofNat l1)).toNat - 0) * 1))).getD [])) (AV.str ((bytesOf (rowCut cs0 0 (((minI (Int.ofNat l0) (Int.ofNat l1)).toNat - 0) * 1))).getD [])) :: Cnd.tst _ true :: Cnd.tst _ true :: Cnd.same (AV.str ((bytesOf (rowCut cs0 0 (((minI (Int.ofNat l0) (Int.ofNat l1)).toNat - 0) * 1))).getD [])) (AV.str ((bytesOf (rowCut cs0 0 (((minI (Int.ofNat l0) (Int.ofNat l1)).toNat - 0) * 1))).getD [])) :: Cnd.tst _ false :: Cnd.tst _ false :: Cnd.tst _ true :: Cnd.tst _ true :: Cnd.same (AV.str ((bytesOf (rowCut (kept (ofBytes (xorB (minI (Int.ofNat (minI (Int.ofNat l0) (Int.ofNat l1)).toNat) (Int.ofNat l1)).toNat (bytesL (rowCut (kept (ofBytes (xorB (minI (Int.ofNat l0) (Int.ofNat l1)).toNat (bytesL cs0) (bytesL cs1)))) 0 ((minI (Int.ofNat l0) (Int.ofNat l1)).toNat * 1))) (bytesL cs1)))) 0 (minI (Int.ofNat (minI (Int.ofNat l0) (Int.ofNat l1)).toNat) (Int.ofNat l1)).toNat)).getD [])) (AV.str ((bytesOf (rowCut (kept (ofBytes (xorB (minI (Int.ofNat (minI (Int.ofNat l0) (Int.ofNat l1)).toNat) (Int.ofNat l1)).toNat (bytesL (rowCut (kept (ofBytes (xorB (minI (Int.ofNat l0) (Int.ofNat l1)).toNat (bytesL cs0) (bytesL cs1)))) 0 ((minI (Int.ofNat l0) (Int.ofNat l1)).toNat * 1))) (bytesL cs1)))) 0 (minI (Int.ofNat (minI (Int.ofNat l0) (Int.ofNat l1)).toNat) (Int.ofNat l1)).toNat)).getD [])) :: Cnd.tst _ false :: Cnd.same (AV.bool !bytesEq ((bytesOf (rowCut (kept (ofBytes (xorB (minI (Int.ofNat (minI (Int.ofNat l0) (Int.ofNat l1)).toNat) (Int.ofNat l1)).toNat (bytesL (rowCut (kept (ofBytes (xorB (minI (Int.ofNat l0) (Int.ofNat l1)).toNat (bytesL cs0) (bytesL cs1)))) 0 ((minI (Int.ofNat l0) (Int.ofNat l1)).toNat * 1))) (bytesL cs1)))) 0 (minI (Int.ofNat (minI (Int.ofNat l0) (Int.ofNat l1)).toNat) (Int.ofNat l1)).toNat)).getD []) ((bytesOf (rowCut cs0 0 (((minI (Int.ofNat l0) (Int.ofNat l1)).toNat - 0) * 1))).getD [])) (AV.bool !bytesEq ((bytesOf (rowCut (kept (ofBytes (xorB (minI (Int.ofNat (minI (Int.ofNat l0) (Int.ofNat l1)).toNat) (Int.ofNat l1)).toNat (bytesL (rowCut (kept (ofBytes (xorB (minI (Int.ofNat l0) (Int.ofNat l1)).toNat (bytesL cs0) (bytesL cs1)))) 0 ((minI (Int.ofNat l0) (Int.ofNat l1)).toNat * 1))) (bytesL cs1)))) 0 (minI (Int.ofNat (minI (Int.ofNat l0) (Int.ofNat l1)).toNat) (Int.ofNat l1)).toNat)).getD []) ((bytesOf (rowCut cs0 0 (((minI (Int.ofNat l0) (Int.ofNat l1)).toNat - 0) * 1))).getD [])) :: Cnd.tst _ false :: Cnd.same (AV.bool !bytesEq ((bytesOf (rowCut (kept (ofBytes (xorB (minI (Int.ofNat (minI (Int.ofNat l0) (Int.ofNat l1)).toNat) (Int.ofNat l1)).toNat (bytesL (rowCut (kept (ofBytes (xorB (minI (Int.ofNat l0) (Int.ofNat l1)).toNat (bytesL cs0) (bytesL cs1)))) 0 ((minI (Int.ofNat l0) (Int.ofNat l1)).toNat * 1))) (bytesL cs1)))) 0 (minI (Int.ofNat (minI (Int.ofNat l0) (Int.ofNat l1)).toNat) (Int.ofNat l1)).toNat)).getD []) ((bytesOf (rowCut cs0 0 (((minI (Int.ofNat l0) (Int.ofNat l1)).toNat - 0) * 1))).getD [])) (AV.bool !bytesEq ((bytesOf (rowCut (kept (ofBytes (xorB (minI (Int.ofNat (minI (Int.ofNat l0) (Int.ofNat l1)).toNat) (Int.ofNat l1)).toNat (bytesL (rowCut (kept (ofBytes (xorB (minI (Int.ofNat l0) (Int.ofNat l1)).toNat (bytesL cs0) (bytesL cs1)))) 0 ((minI (Int.ofNat l0) (Int.ofNat l1)).toNat * 1))) (bytesL cs1)))) 0 (minI (Int.ofNat (minI (Int.ofNat l0) (Int.ofNat l1)).toNat) (Int.ofNat l1)).toNat)).getD []) ((bytesOf (rowCut cs0 0 (((minI (Int.ofNat l0) (Int.ofNat l1)).toNat - 0) * 1))).getD [])) :: Cnd.tst _ false :: Cnd.code ((7, 0), xlawL).snd.lsumS.fst ((7, 0), xlawL).snd.lsumS.fst :: Cnd.tst _ true :: Cnd.tst _ true :: Cnd.tst _ true :: Cnd.tst _ true :: Cnd.tst _ true :: Cnd.tst _ true :: Cnd.tst _ true :: Cnd.tst _ true :: Cnd.tst _ true :: Cnd.tst _ true :: Cnd.tst _ true :: Cnd.tst _ true :: Cnd.tst _ true :: Cnd.tst _ true :: Cnd.tst _ true :: Cnd.tst _ true :: Cnd.tst _ true :: Cnd.tst _ true :: Cnd.tst _ true :: Cnd.tst _ true :: Cnd.tst _ true :: Cnd.tst _ true :: Cnd.tst _ true :: Cnd.tst _ true :: Cnd.tst _ true :: Cnd.tst _ true :: Cnd.tst _ true :: Cnd.tst _ true :: Cnd.tst _ true :: Cnd.tst _ true :: Cnd.same (AV.slice (some (2, 0)) (minI (Int.ofNat l0) (Int.ofNat l1)).toNat (some (minI (Int.ofNat l0) (Int.ofNat l1)).toNat)) (AV.slice (some (2, 0)) (minI (Int.ofNat l0) (Int.ofNat l1)).toNat (some (minI (Int.ofNat l0) (Int.ofNat l1)).toNat)) :: Cnd.same (AV.fsl a0 l0 cs0) (AV.fsl a0 l0 cs0) :: Cnd.same (AV.fsl a0 l0 cs0) (AV.fsl a0 l0 cs0) :: Cnd.same (AV.int IntKind.i64 (minI (Int.ofNat l0) (Int.ofNat l1))) (AV.int IntKind.i64 (minI (Int.ofNat l0) (Int.ofNat l1))) :: Cnd.same (AV.int IntKind.i64 (minI (Int.ofNat l0) (Int.ofNat l1))) (AV.int IntKind.i64 (minI (Int.ofNat l0) (Int.ofNat l1))) :: Cnd.tst _ true :: Cnd.tst _ true :: Cnd.tst _ true :: Cnd.same (AV.fsl a0 ((minI (Int.ofNat l0) (Int.ofNat l1)).toNat - 0) (rowCut cs0 0 (((minI (Int.ofNat l0) (Int.ofNat l1)).toNat - 0) * 1))) (AV.fsl a0 ((minI (Int.ofNat l0) (Int.ofNat l1)).toNat - 0) (rowCut cs0 0 (((minI (Int.ofNat l0) (Int.ofNat l1)).toNat - 0) * 1))) :: Cnd.tst _ true :: Cnd.tst _ true :: Cnd.tst _ true :: Cnd.same (AV.fsl a0 ((minI (Int.ofNat l0) (Int.ofNat l1)).toNat - 0) (rowCut cs0 0 (((minI (Int.ofNat l0) (Int.ofNat l1)).toNat - 0) * 1))) (AV.fsl a0 ((minI (Int.ofNat l0) (Int.ofNat l1)).toNat - 0) (rowCut cs0 0 (((minI (Int.ofNat l0) (Int.ofNat l1)).toNat - 0) * 1))) :: Cnd.tst _ true :: Cnd.tst _ true :: Cnd.same (AV.str ((bytesOf (rowCut cs0 0 (((minI (Int.ofNat l0) (Int.ofNat l1)).toNat - 0) * 1))).getD [])) (AV.str ((bytesOf (rowCut cs0 0 (((minI (Int.ofNat l0) (Int.ofNat l1)).toNat - 0) * 1))).getD [])) :: Cnd.tst _ true :: Cnd.tst _ true :: Cnd.same (AV.str ((bytesOf (rowCut cs0 0 (((minI (Int.ofNat l0) (Int.ofNat l1)).toNat - 0) * 1))).getD [])) (AV.str ((bytesOf (rowCut cs0 0 (((minI (Int.ofNat l0) (Int.ofNat l1)).toNat - 0) * 1))).getD [])) :: Cnd.same (AV.fsl a1 l1 cs1) (AV.fsl a1 l1 cs1) :: Cnd.same (AV.fsl a1 l1 cs1) (AV.fsl a1 l1 cs1) :: Cnd.same (AV.int IntKind.i64 (minI (Int.ofNat l0) (Int.ofNat l1))) (AV.int IntKind.i64 (minI (Int.ofNat l0) (Int.ofNat l1))) :: Cnd.same (AV.int IntKind.i64 (minI (Int.ofNat l0) (Int.ofNat l1))) (AV.int IntKind.i64 (minI (Int.ofNat l0) (Int.ofNat l1))) :: Cnd.tst _ true :: Cnd.tst _ true :: Cnd.tst _ true :: Cnd.same (AV.fsl a1 ((minI (Int.ofNat l0) (Int.ofNat l1)).toNat - 0) (rowCut cs1 0 (((minI (Int.ofNat l0) (Int.ofNat l1)).toNat - 0) * 1))) (AV.fsl a1 ((minI (Int.ofNat l0) (Int.ofNat l1)).toNat - 0) (rowCut cs1 0 (((minI (Int.ofNat l0) (Int.ofNat l1)).toNat - 0) * 1))) :: Cnd.tst _ true :: Cnd.tst _ true :: Cnd.tst _ true :: Cnd.same (AV.fsl a1 ((minI (Int.ofNat l0) (Int.ofNat l1)).toNat - 0) (rowCut cs1 0 (((minI (Int.ofNat l0) (Int.ofNat l1)).toNat - 0) * 1))) (AV.fsl a1 ((minI (Int.ofNat l0) (Int.ofNat l1)).toNat - 0) (rowCut cs1 0 (((minI (Int.ofNat l0) (Int.ofNat l1)).toNat - 0) * 1))) :: Cnd.tst _ true :: Cnd.tst _ true :: Cnd.same (AV.str ((bytesOf (rowCut cs1 0 (((minI (Int.ofNat l0) (Int.ofNat l1)).toNat - 0) * 1))).getD [])) (AV.str ((bytesOf (rowCut cs1 0 (((minI (Int.ofNat l0) (Int.ofNat l1)).toNat - 0) * 1))).getD [])) :: Cnd.tst _ true :: Cnd.tst _ true :: Cnd.same (AV.str ((bytesOf (rowCut cs1 0 (((minI (Int.ofNat l0) (Int.ofNat l1)).toNat - 0) * 1))).getD [])) (AV.str ((bytesOf (rowCut cs1 0 (((minI (Int.ofNat l0) (Int.ofNat l1)).toNat - 0) * 1))).getD [])) :: Cnd.same (AV.bool (bytesEq ((bytesOf (rowCut cs0 0 (((minI (Int.ofNat l0) (Int.ofNat l1)).toNat - 0) * 1))).getD []) ((bytesOf (rowCut cs1 0 (((minI (Int.ofNat l0) (Int.ofNat l1)).toNat - 0) * 1))).getD []))) (AV.bool (bytesEq ((bytesOf (rowCut cs0 0 (((minI (Int.ofNat l0) (Int.ofNat l1)).toNat - 0) * 1))).getD []) ((bytesOf (rowCut cs1 0 (((minI (Int.ofNat l0) (Int.ofNat l1)).toNat - 0) * 1))).getD []))) :: Cnd.same (AV.bool (bytesEq ((bytesOf (rowCut cs0 0 (((minI (Int.ofNat l0) (Int.ofNat l1)).toNat - 0) * 1))).getD []) ((bytesOf (rowCut cs1 0 (((minI (Int.ofNat l0) (Int.ofNat l1)).toNat - 0) * 1))).getD []))) (AV.bool (bytesEq ((bytesOf (rowCut cs0 0 (((minI (Int.ofNat l0) (Int.ofNat l1)).toNat - 0) * 1))).getD []) ((bytesOf (rowCut cs1 0 (((minI (Int.ofNat l0) (Int.ofNat l1)).toNat - 0) * 1))).getD []))) :: Cnd.same (AV.bool (zeroL (rowCut (kept (ofBytes (xorB (minI (Int.ofNat l0) (Int.ofNat l1)).toNat (bytesL cs0) (bytesL cs1)))) 0 ((minI (Int.ofNat l0) (Int.ofNat l1)).toNat * 1)) == bytesEq ((bytesOf (rowCut cs0 0 (((minI (Int.ofNat l0) (Int.ofNat l1)).toNat - 0) * 1))).getD []) ((bytesOf (rowCut cs1 0 (((minI (Int.ofNat l0) (Int.ofNat l1)).toNat - 0) * 1))).getD []))) (AV.bool (zeroL (rowCut (kept (ofBytes (xorB (minI (Int.ofNat l0) (Int.ofNat l1)).toNat (bytesL cs0) (bytesL cs1)))) 0 ((minI (Int.ofNat l0) (Int.ofNat l1)).toNat * 1)) == bytesEq ((bytesOf (rowCut cs0 0 (((minI (Int.ofNat l0) (Int.ofNat l1)).toNat - 0) * 1))).getD []) ((bytesOf (rowCut cs1 0 (((minI (Int.ofNat l0) (Int.ofNat l1)).toNat - 0) * 1))).getD []))) :: Cnd.same (AV.bool (zeroL (rowCut (kept (ofBytes (xorB (minI (Int.ofNat l0) (Int.ofNat l1)).toNat (bytesL cs0) (bytesL cs1)))) 0 ((minI (Int.ofNat l0) (Int.ofNat l1)).toNat * 1)) == bytesEq ((bytesOf (rowCut cs0 0 (((minI (Int.ofNat l0) (Int.ofNat l1)).toNat - 0) * 1))).getD []) ((bytesOf (rowCut cs1 0 (((minI (Int.ofNat l0) (Int.ofNat l1)).toNat - 0) * 1))).getD []))) (AV.bool (zeroL (rowCut (kept (ofBytes (xorB (minI (Int.ofNat l0) (Int.ofNat l1)).toNat (bytesL cs0) (bytesL cs1)))) 0 ((minI (Int.ofNat l0) (Int.ofNat l1)).toNat * 1)) == bytesEq ((bytesOf (rowCut cs0 0 (((minI (Int.ofNat l0) (Int.ofNat l1)).toNat - 0) * 1))).getD []) ((bytesOf (rowCut cs1 0 (((minI (Int.ofNat l0) (Int.ofNat l1)).toNat - 0) * 1))).getD []))) :: Cnd.tst _ true :: Cnd.tst _ true :: Cnd.same (AV.bool (zeroL [])) (AV.bool (zeroL [])) :: Cnd.same (AV.bool (zeroL [])) (AV.bool (zeroL [])) :: [])) (by kernel_rfl) ⟨h0, h0, h0, h0, h1, h2, h3, h4, h5, h6, h7, h8, h9, h10, h10, h10, h10, h10, h11, h12, h13, h10, h14, h15, h10, h16, h17, h3, h18, h19, h6, h7, h20, h9, h10, h21, h22, h10, h10, rfl, rfl, rfl, rfl, rfl, h10, rfl, h10, rfl, h10, rfl, rfl, h10, rfl, rfl, h10, h11, h12, h13, rfl, h11, h12, h13, rfl, h10, h14, h15, rfl, h14, h15, rfl, h10, h10, h21, h22, rfl, h10, rfl, h10, rfl, h23, rfl, h17, h24, h25, h25, h26, h4, h6, h5, h7, h13, h27, h28, h29, h11, h12, h13, h14, h15, h30, h12, h27, h31, h32, h16, h17, h18, h19, h29, h33, h33, rfl, rfl, rfl, rfl, rfl, h11, h12, h13, rfl, h11, h12, h13, rfl, h14, h15, rfl, h14, h15, rfl, rfl, rfl, rfl, rfl, h30, h12, h27, rfl, h30, h12, h27, rfl, h31, h32, rfl, h31, h32, rfl, rfl, rfl, rfl, rfl, h33, h33, rfl, rfl, trivial⟩

theorem word_xorsA (a0 : Bool) (l0 : Nat) (cs0 : List AV) (a1 : Bool) (l1 : Nat) (cs1 : List AV) (h0 : (iltB (Int.ofNat 200) (Int.ofNat l0)) = true) :
    ∃ h', aCall C04 60 (Tgt.fn 7) [AV.fsl a0 l0 cs0, AV.fsl a1 l1 cs1] H0 = some (AV.bool true, h') ∧ [].map h'.get = [] :=
  call_runH (q := (oc 4 (.y :: (.y :: (.y :: (.y :: (oc 1 []))))))) (c := (Cnd.tst _ true :: Cnd.tst _ true :: Cnd.tst _ true :: Cnd.tst _ true :: [])) (by kernel_rfl) ⟨h0, h0, h0, h0, trivial⟩

theorem word_xorsB (a0 : Bool) (l0 : Nat) (cs0 : List AV) (a1 : Bool) (l1 : Nat) (cs1 : List AV) (h0 : (iltB (Int.ofNat 200) (Int.ofNat l0)) = false) (h1 : (iltB (Int.ofNat 200) (Int.ofNat l1)) = true) :
    ∃ h', aCall C04 60 (Tgt.fn 7) [AV.fsl a0 l0 cs0, AV.fsl a1 l1 cs1] H0 = some (AV.bool true, h') ∧ [].map h'.get = [] :=
  call_runH (q := (oc 4 (.z :: (.z :: (.z :: (.z :: (.y :: []))))))) (c := (Cnd.tst _ false :: Cnd.tst _ false :: Cnd.tst _ false :: Cnd.tst _ false :: Cnd.tst _ true :: [])) (by kernel_rfl) ⟨h0, h0, h0, h0, h1, trivial⟩


theorem xorB_get (k : Nat) (l m : List UInt8) (i : Nat) (hi : i < k) : (xorB k l m)[i]? = some (l.getD i 0 ^^^ m.getD i 0) := by simp [xorB, hi]
theorem xorB_back (k : Nat) (l m : List UInt8) (h1 : k ≤ l.length) : xorB k (xorB k l m) m = l.take k := by
  apply List.ext_getElem?
  intro i
  by_cases hi : i < k
  · have e1 := xorB_get k l m i hi
    have e2 : (xorB k l m).getD i 0 = l.getD i 0 ^^^ m.getD i 0 := by rw [List.getD_eq_getElem?_getD, e1]; rfl
    rw [xorB_get k _ m i hi, e2, List.getElem?_take_of_lt hi, UInt8.xor_assoc, UInt8.xor_self, UInt8.xor_zero]
    simp [show i < l.length by omega]
  · rw [List.getElem?_eq_none (by rw [xorB_length]; omega), List.getElem?_eq_none (by rw [List.length_take]; omega)]
theorem xorB_zero (k : Nat) (l m : List UInt8) (h1 : k ≤ l.length) (h2 : k ≤ m.length) : ((xorB k l m).all fun b => b == 0) = (l.take k == m.take k) := by
  rw [Bool.eq_iff_iff, List.all_eq_true, beq_iff_eq]
  constructor
  · intro h
    apply List.ext_getElem?
    intro i
    by_cases hi : i < k
    · have e1 := xorB_get k l m i hi
      have := h _ (List.mem_of_getElem? e1)
      have := UInt8.xor_eq_zero_iff.1 (eq_of_beq this)
      rw [List.getElem?_take_of_lt hi, List.getElem?_take_of_lt hi]
      simpa [show i < l.length by omega, show i < m.length by omega] using this
    · rw [List.getElem?_eq_none (by rw [List.length_take]; omega), List.getElem?_eq_none (by rw [List.length_take]; omega)]
  · intro h b hb
    obtain ⟨i, hi, hb⟩ := List.getElem_of_mem hb
    rw [xorB_length] at hi
    have e1 := xorB_get k l m i hi
    rw [List.getElem?_eq_getElem (by rw [xorB_length]; exact hi), hb] at e1
    injection e1 with e1
    have h3 : (l.take k)[i]? = (m.take k)[i]? := by rw [h]
    rw [List.getElem?_take_of_lt hi, List.getElem?_take_of_lt hi] at h3
    have h4 : l.getD i 0 = m.getD i 0 := by rw [List.getD_eq_getElem?_getD, List.getD_eq_getElem?_getD, h3]
    rw [e1, h4, UInt8.xor_self]; rfl
theorem cut_all (l : List UInt8) (k : Nat) (h : l.length = k) : rowCut (ofBytes l) 0 k = ofBytes l := by
  rw [rowCut_ofBytes, List.drop_zero, List.take_of_length_le (by omega)]
theorem cut_first (l : List UInt8) (k : Nat) : rowCut (ofBytes l) 0 k = ofBytes (l.take k) := by rw [rowCut_ofBytes, List.drop_zero]
theorem tn (k : Nat) : (Int.ofNat k).toNat = k := rfl
theorem xors_run (a0 a1 : Bool) (l m : List UInt8) : ∃ h', aCall C04 60 (.fn 7) [.fsl a0 l.length (ofBytes l), .fsl a1 m.length (ofBytes m)] H0 = some (.bool true, h') := by
  by_cases hl : l.length ≤ 200
  · by_cases hm : m.length ≤ 200
    · obtain ⟨k, hk⟩ : ∃ k, k = min l.length m.length := ⟨_, rfl⟩
      have le1 : k ≤ l.length := by omega
      have le2 : k ≤ m.length := by omega
      have e1 : minI (Int.ofNat l.length) (Int.ofNat m.length) = Int.ofNat k := by rw [minI_nat, ← hk]
      have e2 : minI (Int.ofNat k) (Int.ofNat m.length) = Int.ofNat k := by rw [minI_nat]; congr 1; omega
      have x1 : ofBytes (xorB k (xorB k l m) m) = ofBytes (l.take k) := by rw [xorB_back k l m le1]
      have lt1 : (l.take k).length = k := by rw [List.length_take]; omega
      have lt2 : (m.take k).length = k := by rw [List.length_take]; omega
      have c1 := cut_first l k
      have c2 := cut_first m k
      have c3 := cut_all (xorB k l m) k (xorB_length k l m)
      have c4 := cut_all (l.take k) k lt1
      have nil0 : zeroL [] = true := by unfold zeroL; rw [kept_eq]; rfl
      have z := xorB_zero k l m le1 le2
      have g0 : (iltB (Int.ofNat 200) (Int.ofNat l.length)) = false := by
        (try simp only [e1, tn, e2, kept_eq, bytesL_ofBytes, Nat.sub_zero, Nat.mul_one, Nat.zero_add, c1, c2, c3, x1, c4])
        first
          | rfl
          | exact plain_law
          | exact beq_of1 (ofBytes_length _)
          | (simp [nbeq, nble, iltB_eq, ileB_eq, ieqB_eq, bytesEq_eq, u8L_ofBytes, u8L_nil, bytesOf_ofBytes, ofBytes_plainL, ofBytes_length, xorB_length, bytesL_ofBytes, lt1, lt2, eqXor, zeroL, kept_eq, z, AV.plainL, AV.plain, le1, le2, hl, hm]; done)
          | (simp [nbeq, nble, iltB_eq, ileB_eq, ieqB_eq, bytesEq_eq, u8L_ofBytes, u8L_nil, bytesOf_ofBytes, ofBytes_plainL, ofBytes_length, xorB_length, bytesL_ofBytes, lt1, lt2, eqXor, zeroL, kept_eq, z, AV.plainL, AV.plain, le1, le2, hl, hm]; omega)
      have g1 : (iltB (Int.ofNat 200) (Int.ofNat m.length)) = false := by
        (try simp only [e1, tn, e2, kept_eq, bytesL_ofBytes, Nat.sub_zero, Nat.mul_one, Nat.zero_add, c1, c2, c3, x1, c4])
        first
          | rfl
          | exact plain_law
          | exact beq_of1 (ofBytes_length _)
          | (simp [nbeq, nble, iltB_eq, ileB_eq, ieqB_eq, bytesEq_eq, u8L_ofBytes, u8L_nil, bytesOf_ofBytes, ofBytes_plainL, ofBytes_length, xorB_length, bytesL_ofBytes, lt1, lt2, eqXor, zeroL, kept_eq, z, AV.plainL, AV.plain, le1, le2, hl, hm]; done)
          | (simp [nbeq, nble, iltB_eq, ileB_eq, ieqB_eq, bytesEq_eq, u8L_ofBytes, u8L_nil, bytesOf_ofBytes, ofBytes_plainL, ofBytes_length, xorB_length, bytesL_ofBytes, lt1, lt2, eqXor, zeroL, kept_eq, z, AV.plainL, AV.plain, le1, le2, hl, hm]; omega)
      have g2 : (AV.plainL (ofBytes l)) = true := by
        (try simp only [e1, tn, e2, kept_eq, bytesL_ofBytes, Nat.sub_zero, Nat.mul_one, Nat.zero_add, c1, c2, c3, x1, c4])
        first
          | rfl
          | exact plain_law
          | exact beq_of1 (ofBytes_length _)
          | (simp [nbeq, nble, iltB_eq, ileB_eq, ieqB_eq, bytesEq_eq, u8L_ofBytes, u8L_nil, bytesOf_ofBytes, ofBytes_plainL, ofBytes_length, xorB_length, bytesL_ofBytes, lt1, lt2, eqXor, zeroL, kept_eq, z, AV.plainL, AV.plain, le1, le2, hl, hm]; done)
          | (simp [nbeq, nble, iltB_eq, ileB_eq, ieqB_eq, bytesEq_eq, u8L_ofBytes, u8L_nil, bytesOf_ofBytes, ofBytes_plainL, ofBytes_length, xorB_length, bytesL_ofBytes, lt1, lt2, eqXor, zeroL, kept_eq, z, AV.plainL, AV.plain, le1, le2, hl, hm]; omega)
      have g3 : (AV.plainL (ofBytes m)) = true := by
        (try simp only [e1, tn, e2, kept_eq, bytesL_ofBytes, Nat.sub_zero, Nat.mul_one, Nat.zero_add, c1, c2, c3, x1, c4])
        first
          | rfl
          | exact plain_law
          | exact beq_of1 (ofBytes_length _)
          | (simp [nbeq, nble, iltB_eq, ileB_eq, ieqB_eq, bytesEq_eq, u8L_ofBytes, u8L_nil, bytesOf_ofBytes, ofBytes_plainL, ofBytes_length, xorB_length, bytesL_ofBytes, lt1, lt2, eqXor, zeroL, kept_eq, z, AV.plainL, AV.plain, le1, le2, hl, hm]; done)
          | (simp [nbeq, nble, iltB_eq, ileB_eq, ieqB_eq, bytesEq_eq, u8L_ofBytes, u8L_nil, bytesOf_ofBytes, ofBytes_plainL, ofBytes_length, xorB_length, bytesL_ofBytes, lt1, lt2, eqXor, zeroL, kept_eq, z, AV.plainL, AV.plain, le1, le2, hl, hm]; omega)
      have g4 : (u8L (ofBytes l)) = true := by
        (try simp only [e1, tn, e2, kept_eq, bytesL_ofBytes, Nat.sub_zero, Nat.mul_one, Nat.zero_add, c1, c2, c3, x1, c4])
        first
          | rfl
          | exact plain_law
          | exact beq_of1 (ofBytes_length _)
          | (simp [nbeq, nble, iltB_eq, ileB_eq, ieqB_eq, bytesEq_eq, u8L_ofBytes, u8L_nil, bytesOf_ofBytes, ofBytes_plainL, ofBytes_length, xorB_length, bytesL_ofBytes, lt1, lt2, eqXor, zeroL, kept_eq, z, AV.plainL, AV.plain, le1, le2, hl, hm]; done)
          | (simp [nbeq, nble, iltB_eq, ileB_eq, ieqB_eq, bytesEq_eq, u8L_ofBytes, u8L_nil, bytesOf_ofBytes, ofBytes_plainL, ofBytes_length, xorB_length, bytesL_ofBytes, lt1, lt2, eqXor, zeroL, kept_eq, z, AV.plainL, AV.plain, le1, le2, hl, hm]; omega)
      have g5 : ((ofBytes l).length.beq l.length) = true := by
        (try simp only [e1, tn, e2, kept_eq, bytesL_ofBytes, Nat.sub_zero, Nat.mul_one, Nat.zero_add, c1, c2, c3, x1, c4])
        first
          | rfl
          | exact plain_law
          | exact beq_of1 (ofBytes_length _)
          | (simp [nbeq, nble, iltB_eq, ileB_eq, ieqB_eq, bytesEq_eq, u8L_ofBytes, u8L_nil, bytesOf_ofBytes, ofBytes_plainL, ofBytes_length, xorB_length, bytesL_ofBytes, lt1, lt2, eqXor, zeroL, kept_eq, z, AV.plainL, AV.plain, le1, le2, hl, hm]; done)
          | (simp [nbeq, nble, iltB_eq, ileB_eq, ieqB_eq, bytesEq_eq, u8L_ofBytes, u8L_nil, bytesOf_ofBytes, ofBytes_plainL, ofBytes_length, xorB_length, bytesL_ofBytes, lt1, lt2, eqXor, zeroL, kept_eq, z, AV.plainL, AV.plain, le1, le2, hl, hm]; omega)
      have g6 : (u8L (ofBytes m)) = true := by
        (try simp only [e1, tn, e2, kept_eq, bytesL_ofBytes, Nat.sub_zero, Nat.mul_one, Nat.zero_add, c1, c2, c3, x1, c4])
        first
          | rfl
          | exact plain_law
          | exact beq_of1 (ofBytes_length _)
          | (simp [nbeq, nble, iltB_eq, ileB_eq, ieqB_eq, bytesEq_eq, u8L_ofBytes, u8L_nil, bytesOf_ofBytes, ofBytes_plainL, ofBytes_length, xorB_length, bytesL_ofBytes, lt1, lt2, eqXor, zeroL, kept_eq, z, AV.plainL, AV.plain, le1, le2, hl, hm]; done)
          | (simp [nbeq, nble, iltB_eq, ileB_eq, ieqB_eq, bytesEq_eq, u8L_ofBytes, u8L_nil, bytesOf_ofBytes, ofBytes_plainL, ofBytes_length, xorB_length, bytesL_ofBytes, lt1, lt2, eqXor, zeroL, kept_eq, z, AV.plainL, AV.plain, le1, le2, hl, hm]; omega)
      have g7 : ((ofBytes m).length.beq m.length) = true := by
        (try simp only [e1, tn, e2, kept_eq, bytesL_ofBytes, Nat.sub_zero, Nat.mul_one, Nat.zero_add, c1, c2, c3, x1, c4])
        first
          | rfl
          | exact plain_law
          | exact beq_of1 (ofBytes_length _)
          | (simp [nbeq, nble, iltB_eq, ileB_eq, ieqB_eq, bytesEq_eq, u8L_ofBytes, u8L_nil, bytesOf_ofBytes, ofBytes_plainL, ofBytes_length, xorB_length, bytesL_ofBytes, lt1, lt2, eqXor, zeroL, kept_eq, z, AV.plainL, AV.plain, le1, le2, hl, hm]; done)
          | (simp [nbeq, nble, iltB_eq, ileB_eq, ieqB_eq, bytesEq_eq, u8L_ofBytes, u8L_nil, bytesOf_ofBytes, ofBytes_plainL, ofBytes_length, xorB_length, bytesL_ofBytes, lt1, lt2, eqXor, zeroL, kept_eq, z, AV.plainL, AV.plain, le1, le2, hl, hm]; omega)
      have g8 : (l.length.ble 1000) = true := by
        (try simp only [e1, tn, e2, kept_eq, bytesL_ofBytes, Nat.sub_zero, Nat.mul_one, Nat.zero_add, c1, c2, c3, x1, c4])
        first
          | rfl
          | exact plain_law
          | exact beq_of1 (ofBytes_length _)
          | (simp [nbeq, nble, iltB_eq, ileB_eq, ieqB_eq, bytesEq_eq, u8L_ofBytes, u8L_nil, bytesOf_ofBytes, ofBytes_plainL, ofBytes_length, xorB_length, bytesL_ofBytes, lt1, lt2, eqXor, zeroL, kept_eq, z, AV.plainL, AV.plain, le1, le2, hl, hm]; done)
          | (simp [nbeq, nble, iltB_eq, ileB_eq, ieqB_eq, bytesEq_eq, u8L_ofBytes, u8L_nil, bytesOf_ofBytes, ofBytes_plainL, ofBytes_length, xorB_length, bytesL_ofBytes, lt1, lt2, eqXor, zeroL, kept_eq, z, AV.plainL, AV.plain, le1, le2, hl, hm]; omega)
      have g9 : (m.length.ble 1000) = true := by
        (try simp only [e1, tn, e2, kept_eq, bytesL_ofBytes, Nat.sub_zero, Nat.mul_one, Nat.zero_add, c1, c2, c3, x1, c4])
        first
          | rfl
          | exact plain_law
          | exact beq_of1 (ofBytes_length _)
          | (simp [nbeq, nble, iltB_eq, ileB_eq, ieqB_eq, bytesEq_eq, u8L_ofBytes, u8L_nil, bytesOf_ofBytes, ofBytes_plainL, ofBytes_length, xorB_length, bytesL_ofBytes, lt1, lt2, eqXor, zeroL, kept_eq, z, AV.plainL, AV.plain, le1, le2, hl, hm]; done)
          | (simp [nbeq, nble, iltB_eq, ileB_eq, ieqB_eq, bytesEq_eq, u8L_ofBytes, u8L_nil, bytesOf_ofBytes, ofBytes_plainL, ofBytes_length, xorB_length, bytesL_ofBytes, lt1, lt2, eqXor, zeroL, kept_eq, z, AV.plainL, AV.plain, le1, le2, hl, hm]; omega)
      have g10 : (!ieqB (Int.ofNat (minI (Int.ofNat l.length) (Int.ofNat m.length)).toNat) (minI (Int.ofNat l.length) (Int.ofNat m.length))) = false := by
        (try simp only [e1, tn, e2, kept_eq, bytesL_ofBytes, Nat.sub_zero, Nat.mul_one, Nat.zero_add, c1, c2, c3, x1, c4])
        first
          | rfl
          | exact plain_law
          | exact beq_of1 (ofBytes_length _)
          | (simp [nbeq, nble, iltB_eq, ileB_eq, ieqB_eq, bytesEq_eq, u8L_ofBytes, u8L_nil, bytesOf_ofBytes, ofBytes_plainL, ofBytes_length, xorB_length, bytesL_ofBytes, lt1, lt2, eqXor, zeroL, kept_eq, z, AV.plainL, AV.plain, le1, le2, hl, hm]; done)
          | (simp [nbeq, nble, iltB_eq, ileB_eq, ieqB_eq, bytesEq_eq, u8L_ofBytes, u8L_nil, bytesOf_ofBytes, ofBytes_plainL, ofBytes_length, xorB_length, bytesL_ofBytes, lt1, lt2, eqXor, zeroL, kept_eq, z, AV.plainL, AV.plain, le1, le2, hl, hm]; omega)
      have g11 : ((ofBytes l).length.beq (l.length.mul 1)) = true := by
        (try simp only [e1, tn, e2, kept_eq, bytesL_ofBytes, Nat.sub_zero, Nat.mul_one, Nat.zero_add, c1, c2, c3, x1, c4])
        first
          | rfl
          | exact plain_law
          | exact beq_of1 (ofBytes_length _)
          | (simp [nbeq, nble, iltB_eq, ileB_eq, ieqB_eq, bytesEq_eq, u8L_ofBytes, u8L_nil, bytesOf_ofBytes, ofBytes_plainL, ofBytes_length, xorB_length, bytesL_ofBytes, lt1, lt2, eqXor, zeroL, kept_eq, z, AV.plainL, AV.plain, le1, le2, hl, hm]; done)
          | (simp [nbeq, nble, iltB_eq, ileB_eq, ieqB_eq, bytesEq_eq, u8L_ofBytes, u8L_nil, bytesOf_ofBytes, ofBytes_plainL, ofBytes_length, xorB_length, bytesL_ofBytes, lt1, lt2, eqXor, zeroL, kept_eq, z, AV.plainL, AV.plain, le1, le2, hl, hm]; omega)
      have g12 : (ileB (Int.ofNat 0) (minI (Int.ofNat l.length) (Int.ofNat m.length))) = true := by
        (try simp only [e1, tn, e2, kept_eq, bytesL_ofBytes, Nat.sub_zero, Nat.mul_one, Nat.zero_add, c1, c2, c3, x1, c4])
        first
          | rfl
          | exact plain_law
          | exact beq_of1 (ofBytes_length _)
          | (simp [nbeq, nble, iltB_eq, ileB_eq, ieqB_eq, bytesEq_eq, u8L_ofBytes, u8L_nil, bytesOf_ofBytes, ofBytes_plainL, ofBytes_length, xorB_length, bytesL_ofBytes, lt1, lt2, eqXor, zeroL, kept_eq, z, AV.plainL, AV.plain, le1, le2, hl, hm]; done)
          | (simp [nbeq, nble, iltB_eq, ileB_eq, ieqB_eq, bytesEq_eq, u8L_ofBytes, u8L_nil, bytesOf_ofBytes, ofBytes_plainL, ofBytes_length, xorB_length, bytesL_ofBytes, lt1, lt2, eqXor, zeroL, kept_eq, z, AV.plainL, AV.plain, le1, le2, hl, hm]; omega)
      have g13 : ((minI (Int.ofNat l.length) (Int.ofNat m.length)).toNat.ble l.length) = true := by
        (try simp only [e1, tn, e2, kept_eq, bytesL_ofBytes, Nat.sub_zero, Nat.mul_one, Nat.zero_add, c1, c2, c3, x1, c4])
        first
          | rfl
          | exact plain_law
          | exact beq_of1 (ofBytes_length _)
          | (simp [nbeq, nble, iltB_eq, ileB_eq, ieqB_eq, bytesEq_eq, u8L_ofBytes, u8L_nil, bytesOf_ofBytes, ofBytes_plainL, ofBytes_length, xorB_length, bytesL_ofBytes, lt1, lt2, eqXor, zeroL, kept_eq, z, AV.plainL, AV.plain, le1, le2, hl, hm]; done)
          | (simp [nbeq, nble, iltB_eq, ileB_eq, ieqB_eq, bytesEq_eq, u8L_ofBytes, u8L_nil, bytesOf_ofBytes, ofBytes_plainL, ofBytes_length, xorB_length, bytesL_ofBytes, lt1, lt2, eqXor, zeroL, kept_eq, z, AV.plainL, AV.plain, le1, le2, hl, hm]; omega)
      have g14 : ((rowCut (ofBytes l) 0 (((minI (Int.ofNat l.length) (Int.ofNat m.length)).toNat - 0) * 1)).length.beq ((minI (Int.ofNat l.length) (Int.ofNat m.length)).toNat - 0)) = true := by
        (try simp only [e1, tn, e2, kept_eq, bytesL_ofBytes, Nat.sub_zero, Nat.mul_one, Nat.zero_add, c1, c2, c3, x1, c4])
        first
          | rfl
          | exact plain_law
          | exact beq_of1 (ofBytes_length _)
          | (simp [nbeq, nble, iltB_eq, ileB_eq, ieqB_eq, bytesEq_eq, u8L_ofBytes, u8L_nil, bytesOf_ofBytes, ofBytes_plainL, ofBytes_length, xorB_length, bytesL_ofBytes, lt1, lt2, eqXor, zeroL, kept_eq, z, AV.plainL, AV.plain, le1, le2, hl, hm]; done)
          | (simp [nbeq, nble, iltB_eq, ileB_eq, ieqB_eq, bytesEq_eq, u8L_ofBytes, u8L_nil, bytesOf_ofBytes, ofBytes_plainL, ofBytes_length, xorB_length, bytesL_ofBytes, lt1, lt2, eqXor, zeroL, kept_eq, z, AV.plainL, AV.plain, le1, le2, hl, hm]; omega)
      have g15 : ((bytesOf (rowCut (ofBytes l) 0 (((minI (Int.ofNat l.length) (Int.ofNat m.length)).toNat - 0) * 1))).isSome) = true := by
        (try simp only [e1, tn, e2, kept_eq, bytesL_ofBytes, Nat.sub_zero, Nat.mul_one, Nat.zero_add, c1, c2, c3, x1, c4])
        first
          | rfl
          | exact plain_law
          | exact beq_of1 (ofBytes_length _)
          | (simp [nbeq, nble, iltB_eq, ileB_eq, ieqB_eq, bytesEq_eq, u8L_ofBytes, u8L_nil, bytesOf_ofBytes, ofBytes_plainL, ofBytes_length, xorB_length, bytesL_ofBytes, lt1, lt2, eqXor, zeroL, kept_eq, z, AV.plainL, AV.plain, le1, le2, hl, hm]; done)
          | (simp [nbeq, nble, iltB_eq, ileB_eq, ieqB_eq, bytesEq_eq, u8L_ofBytes, u8L_nil, bytesOf_ofBytes, ofBytes_plainL, ofBytes_length, xorB_length, bytesL_ofBytes, lt1, lt2, eqXor, zeroL, kept_eq, z, AV.plainL, AV.plain, le1, le2, hl, hm]; omega)
      have g16 : ((0 + (minI (Int.ofNat l.length) (Int.ofNat m.length)).toNat * 1).ble (minI (Int.ofNat l.length) (Int.ofNat m.length)).toNat) = true := by
        (try simp only [e1, tn, e2, kept_eq, bytesL_ofBytes, Nat.sub_zero, Nat.mul_one, Nat.zero_add, c1, c2, c3, x1, c4])
        first
          | rfl
          | exact plain_law
          | exact beq_of1 (ofBytes_length _)
          | (simp [nbeq, nble, iltB_eq, ileB_eq, ieqB_eq, bytesEq_eq, u8L_ofBytes, u8L_nil, bytesOf_ofBytes, ofBytes_plainL, ofBytes_length, xorB_length, bytesL_ofBytes, lt1, lt2, eqXor, zeroL, kept_eq, z, AV.plainL, AV.plain, le1, le2, hl, hm]; done)
          | (simp [nbeq, nble, iltB_eq, ileB_eq, ieqB_eq, bytesEq_eq, u8L_ofBytes, u8L_nil, bytesOf_ofBytes, ofBytes_plainL, ofBytes_length, xorB_length, bytesL_ofBytes, lt1, lt2, eqXor, zeroL, kept_eq, z, AV.plainL, AV.plain, le1, le2, hl, hm]; omega)
      have g17 : (AV.plainL (kept (ofBytes (xorB (minI (Int.ofNat l.length) (Int.ofNat m.length)).toNat (bytesL (ofBytes l)) (bytesL (ofBytes m)))))) = true := by
        (try simp only [e1, tn, e2, kept_eq, bytesL_ofBytes, Nat.sub_zero, Nat.mul_one, Nat.zero_add, c1, c2, c3, x1, c4])
        first
          | rfl
          | exact plain_law
          | exact beq_of1 (ofBytes_length _)
          | (simp [nbeq, nble, iltB_eq, ileB_eq, ieqB_eq, bytesEq_eq, u8L_ofBytes, u8L_nil, bytesOf_ofBytes, ofBytes_plainL, ofBytes_length, xorB_length, bytesL_ofBytes, lt1, lt2, eqXor, zeroL, kept_eq, z, AV.plainL, AV.plain, le1, le2, hl, hm]; done)
          | (simp [nbeq, nble, iltB_eq, ileB_eq, ieqB_eq, bytesEq_eq, u8L_ofBytes, u8L_nil, bytesOf_ofBytes, ofBytes_plainL, ofBytes_length, xorB_length, bytesL_ofBytes, lt1, lt2, eqXor, zeroL, kept_eq, z, AV.plainL, AV.plain, le1, le2, hl, hm]; omega)
      have g18 : (u8L (rowCut (kept (ofBytes (xorB (minI (Int.ofNat l.length) (Int.ofNat m.length)).toNat (bytesL (ofBytes l)) (bytesL (ofBytes m))))) 0 ((minI (Int.ofNat l.length) (Int.ofNat m.length)).toNat * 1))) = true := by
        (try simp only [e1, tn, e2, kept_eq, bytesL_ofBytes, Nat.sub_zero, Nat.mul_one, Nat.zero_add, c1, c2, c3, x1, c4])
        first
          | rfl
          | exact plain_law
          | exact beq_of1 (ofBytes_length _)
          | (simp [nbeq, nble, iltB_eq, ileB_eq, ieqB_eq, bytesEq_eq, u8L_ofBytes, u8L_nil, bytesOf_ofBytes, ofBytes_plainL, ofBytes_length, xorB_length, bytesL_ofBytes, lt1, lt2, eqXor, zeroL, kept_eq, z, AV.plainL, AV.plain, le1, le2, hl, hm]; done)
          | (simp [nbeq, nble, iltB_eq, ileB_eq, ieqB_eq, bytesEq_eq, u8L_ofBytes, u8L_nil, bytesOf_ofBytes, ofBytes_plainL, ofBytes_length, xorB_length, bytesL_ofBytes, lt1, lt2, eqXor, zeroL, kept_eq, z, AV.plainL, AV.plain, le1, le2, hl, hm]; omega)
      have g19 : ((rowCut (kept (ofBytes (xorB (minI (Int.ofNat l.length) (Int.ofNat m.length)).toNat (bytesL (ofBytes l)) (bytesL (ofBytes m))))) 0 ((minI (Int.ofNat l.length) (Int.ofNat m.length)).toNat * 1)).length.beq (minI (Int.ofNat l.length) (Int.ofNat m.length)).toNat) = true := by
        (try simp only [e1, tn, e2, kept_eq, bytesL_ofBytes, Nat.sub_zero, Nat.mul_one, Nat.zero_add, c1, c2, c3, x1, c4])
        first
          | rfl
          | exact plain_law
          | exact beq_of1 (ofBytes_length _)
          | (simp [nbeq, nble, iltB_eq, ileB_eq, ieqB_eq, bytesEq_eq, u8L_ofBytes, u8L_nil, bytesOf_ofBytes, ofBytes_plainL, ofBytes_length, xorB_length, bytesL_ofBytes, lt1, lt2, eqXor, zeroL, kept_eq, z, AV.plainL, AV.plain, le1, le2, hl, hm]; done)
          | (simp [nbeq, nble, iltB_eq, ileB_eq, ieqB_eq, bytesEq_eq, u8L_ofBytes, u8L_nil, bytesOf_ofBytes, ofBytes_plainL, ofBytes_length, xorB_length, bytesL_ofBytes, lt1, lt2, eqXor, zeroL, kept_eq, z, AV.plainL, AV.plain, le1, le2, hl, hm]; omega)
      have g20 : ((minI (Int.ofNat l.length) (Int.ofNat m.length)).toNat.ble 1000) = true := by
        (try simp only [e1, tn, e2, kept_eq, bytesL_ofBytes, Nat.sub_zero, Nat.mul_one, Nat.zero_add, c1, c2, c3, x1, c4])
        first
          | rfl
          | exact plain_law
          | exact beq_of1 (ofBytes_length _)
          | (simp [nbeq, nble, iltB_eq, ileB_eq, ieqB_eq, bytesEq_eq, u8L_ofBytes, u8L_nil, bytesOf_ofBytes, ofBytes_plainL, ofBytes_length, xorB_length, bytesL_ofBytes, lt1, lt2, eqXor, zeroL, kept_eq, z, AV.plainL, AV.plain, le1, le2, hl, hm]; done)
          | (simp [nbeq, nble, iltB_eq, ileB_eq, ieqB_eq, bytesEq_eq, u8L_ofBytes, u8L_nil, bytesOf_ofBytes, ofBytes_plainL, ofBytes_length, xorB_length, bytesL_ofBytes, lt1, lt2, eqXor, zeroL, kept_eq, z, AV.plainL, AV.plain, le1, le2, hl, hm]; omega)
      have g21 : ((0 + (minI (Int.ofNat (minI (Int.ofNat l.length) (Int.ofNat m.length)).toNat) (Int.ofNat m.length)).toNat).ble (minI (Int.ofNat (minI (Int.ofNat l.length) (Int.ofNat m.length)).toNat) (Int.ofNat m.length)).toNat) = true := by
        (try simp only [e1, tn, e2, kept_eq, bytesL_ofBytes, Nat.sub_zero, Nat.mul_one, Nat.zero_add, c1, c2, c3, x1, c4])
        first
          | rfl
          | exact plain_law
          | exact beq_of1 (ofBytes_length _)
          | (simp [nbeq, nble, iltB_eq, ileB_eq, ieqB_eq, bytesEq_eq, u8L_ofBytes, u8L_nil, bytesOf_ofBytes, ofBytes_plainL, ofBytes_length, xorB_length, bytesL_ofBytes, lt1, lt2, eqXor, zeroL, kept_eq, z, AV.plainL, AV.plain, le1, le2, hl, hm]; done)
          | (simp [nbeq, nble, iltB_eq, ileB_eq, ieqB_eq, bytesEq_eq, u8L_ofBytes, u8L_nil, bytesOf_ofBytes, ofBytes_plainL, ofBytes_length, xorB_length, bytesL_ofBytes, lt1, lt2, eqXor, zeroL, kept_eq, z, AV.plainL, AV.plain, le1, le2, hl, hm]; omega)
      have g22 : ((bytesOf (rowCut (kept (ofBytes (xorB (minI (Int.ofNat (minI (Int.ofNat l.length) (Int.ofNat m.length)).toNat) (Int.ofNat m.length)).toNat (bytesL (rowCut (kept (ofBytes (xorB (minI (Int.ofNat l.length) (Int.ofNat m.length)).toNat (bytesL (ofBytes l)) (bytesL (ofBytes m))))) 0 ((minI (Int.ofNat l.length) (Int.ofNat m.length)).toNat * 1))) (bytesL (ofBytes m))))) 0 (minI (Int.ofNat (minI (Int.ofNat l.length) (Int.ofNat m.length)).toNat) (Int.ofNat m.length)).toNat)).isSome) = true := by
        (try simp only [e1, tn, e2, kept_eq, bytesL_ofBytes, Nat.sub_zero, Nat.mul_one, Nat.zero_add, c1, c2, c3, x1, c4])
        first
          | rfl
          | exact plain_law
          | exact beq_of1 (ofBytes_length _)
          | (simp [nbeq, nble, iltB_eq, ileB_eq, ieqB_eq, bytesEq_eq, u8L_ofBytes, u8L_nil, bytesOf_ofBytes, ofBytes_plainL, ofBytes_length, xorB_length, bytesL_ofBytes, lt1, lt2, eqXor, zeroL, kept_eq, z, AV.plainL, AV.plain, le1, le2, hl, hm]; done)
          | (simp [nbeq, nble, iltB_eq, ileB_eq, ieqB_eq, bytesEq_eq, u8L_ofBytes, u8L_nil, bytesOf_ofBytes, ofBytes_plainL, ofBytes_length, xorB_length, bytesL_ofBytes, lt1, lt2, eqXor, zeroL, kept_eq, z, AV.plainL, AV.plain, le1, le2, hl, hm]; omega)
      have g23 : (!bytesEq ((bytesOf (rowCut (kept (ofBytes (xorB (minI (Int.ofNat (minI (Int.ofNat l.length) (Int.ofNat m.length)).toNat) (Int.ofNat m.length)).toNat (bytesL (rowCut (kept (ofBytes (xorB (minI (Int.ofNat l.length) (Int.ofNat m.length)).toNat (bytesL (ofBytes l)) (bytesL (ofBytes m))))) 0 ((minI (Int.ofNat l.length) (Int.ofNat m.length)).toNat * 1))) (bytesL (ofBytes m))))) 0 (minI (Int.ofNat (minI (Int.ofNat l.length) (Int.ofNat m.length)).toNat) (Int.ofNat m.length)).toNat)).getD []) ((bytesOf (rowCut (ofBytes l) 0 (((minI (Int.ofNat l.length) (Int.ofNat m.length)).toNat - 0) * 1))).getD [])) = false := by
        (try simp only [e1, tn, e2, kept_eq, bytesL_ofBytes, Nat.sub_zero, Nat.mul_one, Nat.zero_add, c1, c2, c3, x1, c4])
        first
          | rfl
          | exact plain_law
          | exact beq_of1 (ofBytes_length _)
          | (simp [nbeq, nble, iltB_eq, ileB_eq, ieqB_eq, bytesEq_eq, u8L_ofBytes, u8L_nil, bytesOf_ofBytes, ofBytes_plainL, ofBytes_length, xorB_length, bytesL_ofBytes, lt1, lt2, eqXor, zeroL, kept_eq, z, AV.plainL, AV.plain, le1, le2, hl, hm]; done)
          | (simp [nbeq, nble, iltB_eq, ileB_eq, ieqB_eq, bytesEq_eq, u8L_ofBytes, u8L_nil, bytesOf_ofBytes, ofBytes_plainL, ofBytes_length, xorB_length, bytesL_ofBytes, lt1, lt2, eqXor, zeroL, kept_eq, z, AV.plainL, AV.plain, le1, le2, hl, hm]; omega)
      have g24 : (AV.plainL [AV.fsl a0 l.length (ofBytes l), AV.fsl a1 m.length (ofBytes m), AV.int IntKind.i64 (minI (Int.ofNat l.length) (Int.ofNat m.length)), AV.int IntKind.i64 (Int.ofNat (minI (Int.ofNat l.length) (Int.ofNat m.length)).toNat), AV.int IntKind.i64 (Int.ofNat 0)]) = true := by
        (try simp only [e1, tn, e2, kept_eq, bytesL_ofBytes, Nat.sub_zero, Nat.mul_one, Nat.zero_add, c1, c2, c3, x1, c4])
        first
          | rfl
          | exact plain_law
          | exact beq_of1 (ofBytes_length _)
          | (simp [nbeq, nble, iltB_eq, ileB_eq, ieqB_eq, bytesEq_eq, u8L_ofBytes, u8L_nil, bytesOf_ofBytes, ofBytes_plainL, ofBytes_length, xorB_length, bytesL_ofBytes, lt1, lt2, eqXor, zeroL, kept_eq, z, AV.plainL, AV.plain, le1, le2, hl, hm]; done)
          | (simp [nbeq, nble, iltB_eq, ileB_eq, ieqB_eq, bytesEq_eq, u8L_ofBytes, u8L_nil, bytesOf_ofBytes, ofBytes_plainL, ofBytes_length, xorB_length, bytesL_ofBytes, lt1, lt2, eqXor, zeroL, kept_eq, z, AV.plainL, AV.plain, le1, le2, hl, hm]; omega)
      have g25 : ((minI (Int.ofNat l.length) (Int.ofNat m.length)).toNat.beq (minI (Int.ofNat l.length) (Int.ofNat m.length)).toNat) = true := by
        (try simp only [e1, tn, e2, kept_eq, bytesL_ofBytes, Nat.sub_zero, Nat.mul_one, Nat.zero_add, c1, c2, c3, x1, c4])
        first
          | rfl
          | exact plain_law
          | exact beq_of1 (ofBytes_length _)
          | (simp [nbeq, nble, iltB_eq, ileB_eq, ieqB_eq, bytesEq_eq, u8L_ofBytes, u8L_nil, bytesOf_ofBytes, ofBytes_plainL, ofBytes_length, xorB_length, bytesL_ofBytes, lt1, lt2, eqXor, zeroL, kept_eq, z, AV.plainL, AV.plain, le1, le2, hl, hm]; done)
          | (simp [nbeq, nble, iltB_eq, ileB_eq, ieqB_eq, bytesEq_eq, u8L_ofBytes, u8L_nil, bytesOf_ofBytes, ofBytes_plainL, ofBytes_length, xorB_length, bytesL_ofBytes, lt1, lt2, eqXor, zeroL, kept_eq, z, AV.plainL, AV.plain, le1, le2, hl, hm]; omega)
      have g26 : (u8L (kept (ofBytes (xorB (minI (Int.ofNat l.length) (Int.ofNat m.length)).toNat (bytesL (ofBytes l)) (bytesL (ofBytes m)))))) = true := by
        (try simp only [e1, tn, e2, kept_eq, bytesL_ofBytes, Nat.sub_zero, Nat.mul_one, Nat.zero_add, c1, c2, c3, x1, c4])
        first
          | rfl
          | exact plain_law
          | exact beq_of1 (ofBytes_length _)
          | (simp [nbeq, nble, iltB_eq, ileB_eq, ieqB_eq, bytesEq_eq, u8L_ofBytes, u8L_nil, bytesOf_ofBytes, ofBytes_plainL, ofBytes_length, xorB_length, bytesL_ofBytes, lt1, lt2, eqXor, zeroL, kept_eq, z, AV.plainL, AV.plain, le1, le2, hl, hm]; done)
          | (simp [nbeq, nble, iltB_eq, ileB_eq, ieqB_eq, bytesEq_eq, u8L_ofBytes, u8L_nil, bytesOf_ofBytes, ofBytes_plainL, ofBytes_length, xorB_length, bytesL_ofBytes, lt1, lt2, eqXor, zeroL, kept_eq, z, AV.plainL, AV.plain, le1, le2, hl, hm]; omega)
      have g27 : ((minI (Int.ofNat l.length) (Int.ofNat m.length)).toNat.ble m.length) = true := by
        (try simp only [e1, tn, e2, kept_eq, bytesL_ofBytes, Nat.sub_zero, Nat.mul_one, Nat.zero_add, c1, c2, c3, x1, c4])
        first
          | rfl
          | exact plain_law
          | exact beq_of1 (ofBytes_length _)
          | (simp [nbeq, nble, iltB_eq, ileB_eq, ieqB_eq, bytesEq_eq, u8L_ofBytes, u8L_nil, bytesOf_ofBytes, ofBytes_plainL, ofBytes_length, xorB_length, bytesL_ofBytes, lt1, lt2, eqXor, zeroL, kept_eq, z, AV.plainL, AV.plain, le1, le2, hl, hm]; done)
          | (simp [nbeq, nble, iltB_eq, ileB_eq, ieqB_eq, bytesEq_eq, u8L_ofBytes, u8L_nil, bytesOf_ofBytes, ofBytes_plainL, ofBytes_length, xorB_length, bytesL_ofBytes, lt1, lt2, eqXor, zeroL, kept_eq, z, AV.plainL, AV.plain, le1, le2, hl, hm]; omega)
      have g28 : (eqXor (minI (Int.ofNat l.length) (Int.ofNat m.length)).toNat (kept (ofBytes (xorB (minI (Int.ofNat l.length) (Int.ofNat m.length)).toNat (bytesL (ofBytes l)) (bytesL (ofBytes m))))) (ofBytes l) (ofBytes m)) = true := by
        (try simp only [e1, tn, e2, kept_eq, bytesL_ofBytes, Nat.sub_zero, Nat.mul_one, Nat.zero_add, c1, c2, c3, x1, c4])
        first
          | rfl
          | exact plain_law
          | exact beq_of1 (ofBytes_length _)
          | (simp [nbeq, nble, iltB_eq, ileB_eq, ieqB_eq, bytesEq_eq, u8L_ofBytes, u8L_nil, bytesOf_ofBytes, ofBytes_plainL, ofBytes_length, xorB_length, bytesL_ofBytes, lt1, lt2, eqXor, zeroL, kept_eq, z, AV.plainL, AV.plain, le1, le2, hl, hm]; done)
          | (simp [nbeq, nble, iltB_eq, ileB_eq, ieqB_eq, bytesEq_eq, u8L_ofBytes, u8L_nil, bytesOf_ofBytes, ofBytes_plainL, ofBytes_length, xorB_length, bytesL_ofBytes, lt1, lt2, eqXor, zeroL, kept_eq, z, AV.plainL, AV.plain, le1, le2, hl, hm]; omega)
      have g29 : ((minI (Int.ofNat l.length) (Int.ofNat m.length)).toNat.ble 1000000000000) = true := by
        (try simp only [e1, tn, e2, kept_eq, bytesL_ofBytes, Nat.sub_zero, Nat.mul_one, Nat.zero_add, c1, c2, c3, x1, c4])
        first
          | rfl
          | exact plain_law
          | exact beq_of1 (ofBytes_length _)
          | (simp [nbeq, nble, iltB_eq, ileB_eq, ieqB_eq, bytesEq_eq, u8L_ofBytes, u8L_nil, bytesOf_ofBytes, ofBytes_plainL, ofBytes_length, xorB_length, bytesL_ofBytes, lt1, lt2, eqXor, zeroL, kept_eq, z, AV.plainL, AV.plain, le1, le2, hl, hm]; done)
          | (simp [nbeq, nble, iltB_eq, ileB_eq, ieqB_eq, bytesEq_eq, u8L_ofBytes, u8L_nil, bytesOf_ofBytes, ofBytes_plainL, ofBytes_length, xorB_length, bytesL_ofBytes, lt1, lt2, eqXor, zeroL, kept_eq, z, AV.plainL, AV.plain, le1, le2, hl, hm]; omega)
      have g30 : ((ofBytes m).length.beq (m.length.mul 1)) = true := by
        (try simp only [e1, tn, e2, kept_eq, bytesL_ofBytes, Nat.sub_zero, Nat.mul_one, Nat.zero_add, c1, c2, c3, x1, c4])
        first
          | rfl
          | exact plain_law
          | exact beq_of1 (ofBytes_length _)
          | (simp [nbeq, nble, iltB_eq, ileB_eq, ieqB_eq, bytesEq_eq, u8L_ofBytes, u8L_nil, bytesOf_ofBytes, ofBytes_plainL, ofBytes_length, xorB_length, bytesL_ofBytes, lt1, lt2, eqXor, zeroL, kept_eq, z, AV.plainL, AV.plain, le1, le2, hl, hm]; done)
          | (simp [nbeq, nble, iltB_eq, ileB_eq, ieqB_eq, bytesEq_eq, u8L_ofBytes, u8L_nil, bytesOf_ofBytes, ofBytes_plainL, ofBytes_length, xorB_length, bytesL_ofBytes, lt1, lt2, eqXor, zeroL, kept_eq, z, AV.plainL, AV.plain, le1, le2, hl, hm]; omega)
      have g31 : ((rowCut (ofBytes m) 0 (((minI (Int.ofNat l.length) (Int.ofNat m.length)).toNat - 0) * 1)).length.beq ((minI (Int.ofNat l.length) (Int.ofNat m.length)).toNat - 0)) = true := by
        (try simp only [e1, tn, e2, kept_eq, bytesL_ofBytes, Nat.sub_zero, Nat.mul_one, Nat.zero_add, c1, c2, c3, x1, c4])
        first
          | rfl
          | exact plain_law
          | exact beq_of1 (ofBytes_length _)
          | (simp [nbeq, nble, iltB_eq, ileB_eq, ieqB_eq, bytesEq_eq, u8L_ofBytes, u8L_nil, bytesOf_ofBytes, ofBytes_plainL, ofBytes_length, xorB_length, bytesL_ofBytes, lt1, lt2, eqXor, zeroL, kept_eq, z, AV.plainL, AV.plain, le1, le2, hl, hm]; done)
          | (simp [nbeq, nble, iltB_eq, ileB_eq, ieqB_eq, bytesEq_eq, u8L_ofBytes, u8L_nil, bytesOf_ofBytes, ofBytes_plainL, ofBytes_length, xorB_length, bytesL_ofBytes, lt1, lt2, eqXor, zeroL, kept_eq, z, AV.plainL, AV.plain, le1, le2, hl, hm]; omega)
      have g32 : ((bytesOf (rowCut (ofBytes m) 0 (((minI (Int.ofNat l.length) (Int.ofNat m.length)).toNat - 0) * 1))).isSome) = true := by
        (try simp only [e1, tn, e2, kept_eq, bytesL_ofBytes, Nat.sub_zero, Nat.mul_one, Nat.zero_add, c1, c2, c3, x1, c4])
        first
          | rfl
          | exact plain_law
          | exact beq_of1 (ofBytes_length _)
          | (simp [nbeq, nble, iltB_eq, ileB_eq, ieqB_eq, bytesEq_eq, u8L_ofBytes, u8L_nil, bytesOf_ofBytes, ofBytes_plainL, ofBytes_length, xorB_length, bytesL_ofBytes, lt1, lt2, eqXor, zeroL, kept_eq, z, AV.plainL, AV.plain, le1, le2, hl, hm]; done)
          | (simp [nbeq, nble, iltB_eq, ileB_eq, ieqB_eq, bytesEq_eq, u8L_ofBytes, u8L_nil, bytesOf_ofBytes, ofBytes_plainL, ofBytes_length, xorB_length, bytesL_ofBytes, lt1, lt2, eqXor, zeroL, kept_eq, z, AV.plainL, AV.plain, le1, le2, hl, hm]; omega)
      have g33 : (zeroL (rowCut (kept (ofBytes (xorB (minI (Int.ofNat l.length) (Int.ofNat m.length)).toNat (bytesL (ofBytes l)) (bytesL (ofBytes m))))) 0 ((minI (Int.ofNat l.length) (Int.ofNat m.length)).toNat * 1)) == bytesEq ((bytesOf (rowCut (ofBytes l) 0 (((minI (Int.ofNat l.length) (Int.ofNat m.length)).toNat - 0) * 1))).getD []) ((bytesOf (rowCut (ofBytes m) 0 (((minI (Int.ofNat l.length) (Int.ofNat m.length)).toNat - 0) * 1))).getD [])) = true := by
        (try simp only [e1, tn, e2, kept_eq, bytesL_ofBytes, Nat.sub_zero, Nat.mul_one, Nat.zero_add, c1, c2, c3, x1, c4])
        first
          | rfl
          | exact plain_law
          | exact beq_of1 (ofBytes_length _)
          | (simp [nbeq, nble, iltB_eq, ileB_eq, ieqB_eq, bytesEq_eq, u8L_ofBytes, u8L_nil, bytesOf_ofBytes, ofBytes_plainL, ofBytes_length, xorB_length, bytesL_ofBytes, lt1, lt2, eqXor, zeroL, kept_eq, z, AV.plainL, AV.plain, le1, le2, hl, hm]; done)
          | (simp [nbeq, nble, iltB_eq, ileB_eq, ieqB_eq, bytesEq_eq, u8L_ofBytes, u8L_nil, bytesOf_ofBytes, ofBytes_plainL, ofBytes_length, xorB_length, bytesL_ofBytes, lt1, lt2, eqXor, zeroL, kept_eq, z, AV.plainL, AV.plain, le1, le2, hl, hm]; omega)
      obtain ⟨h', h, _⟩ := word_xors a0 l.length (ofBytes l) a1 m.length (ofBytes m) g0 g1 g2 g3 g4 g5 g6 g7 g8 g9 g10 g11 g12 g13 g14 g15 g16 g17 g18 g19 g20 g21 g22 g23 g24 g25 g26 g27 g28 g29 g30 g31 g32 g33
      rw [nil0] at h
      exact ⟨h', h⟩
    · obtain ⟨h', h, _⟩ := word_xorsB a0 l.length (ofBytes l) a1 m.length (ofBytes m) (by rw [iltB_eq]; exact decide_eq_false (by show ¬ ((200 : Nat) : Int) < (l.length : Int); omega)) (by rw [iltB_eq]; exact decide_eq_true (by show ((200 : Nat) : Int) < (m.length : Int); omega))
      exact ⟨h', h⟩
  · obtain ⟨h', h, _⟩ := word_xorsA a0 l.length (ofBytes l) a1 m.length (ofBytes m) (by rw [iltB_eq]; exact decide_eq_true (by show ((200 : Nat) : Int) < (l.length : Int); omega))
    exact ⟨h', h⟩
end Go.Proofs.Ytecncappdnhbaaa
