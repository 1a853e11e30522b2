/- WordPuts: the law's run. -/
import Derived.Test.YtecncappdnhbaaaL03e
import Derived.Test.YtecncappdnhbaaaAbIn
set_option autoImplicit false
set_option linter.unusedVariables false
set_option maxRecDepth 100000
noncomputable section
namespace Go.Proofs.Ytecncappdnhbaaa
open Go.Ab.M Go.Ab Go
theorem word_puts (nl : Bool) (len : Nat) (cs : List AV) (x : Int) (h0 : (iltB (Int.ofNat 100) (Int.ofNat len)) = false) (h1 : (AV.plainL cs) = true) (h2 : (cs.length.beq len) = true) (h3 : (u8L cs) = true) (h4 : (len.ble 100) = true) (h5 : (ileB (Int.ofNat 0) (wrapA IntKind.u8 x)) = true) (h6 : (iltB (wrapA IntKind.u8 x) (Int.ofNat 256)) = true) (h7 : (cb nl (len.beq 0) true) = true) (h8 : (ileB (Int.ofNat 0) (wrapA IntKind.u16 x)) = true) (h9 : (iltB (wrapA IntKind.u16 x) (Int.ofNat 65536)) = true) (h10 : (ileB (Int.ofNat 0) (wrapA IntKind.u32 x)) = true) (h11 : (iltB (wrapA IntKind.u32 x) (Int.ofNat 4294967296)) = true) (h12 : (ileB (Int.ofNat 0) x) = true) (h13 : (iltB x (Int.ofNat 18446744073709551616)) = true) :
    ∃ h', aCall C03d 60 (Tgt.fn 6) [AV.fsl nl len cs, AV.int IntKind.u64 x] H0 = some (AV.bool true, h') ∧ [].map h'.get = [] :=
  call_run (q := (oc 4 (.z :: (.y :: (.y :: (.y :: (.y :: (.y :: (.y :: (.y :: (oc 4 (.y :: (.y :: (.y :: (.y :: (.y :: (.y :: (.y :: (oc 5 (.y :: (.y :: (.y :: (.y :: (.y :: (.y :: (.y :: (oc 4 (.y :: (.y :: (.y :: (.y :: (.y :: (.y :: (.y :: (oc 1 []))))))))))))))))))))))))))))))))))) (c := (Cnd.tst _ false :: Cnd.tst _ true :: Cnd.tst _ true :: Cnd.tst _ true :: Cnd.tst _ true :: Cnd.tst _ true :: Cnd.tst _ true :: Cnd.tst _ true :: Cnd.tst _ true :: Cnd.tst _ true :: Cnd.tst _ true :: Cnd.tst _ true :: Cnd.tst _ true :: Cnd.tst _ true :: Cnd.tst _ true :: Cnd.tst _ true :: Cnd.tst _ true :: Cnd.tst _ true :: Cnd.tst _ true :: Cnd.tst _ true :: Cnd.tst _ true :: Cnd.tst _ true :: Cnd.tst _ true :: Cnd.tst _ true :: Cnd.tst _ true :: Cnd.tst _ true :: Cnd.tst _ true :: Cnd.tst _ true :: Cnd.tst _ true :: [])) (by kernel_rfl) ⟨h0, h1, h2, h3, h4, h5, h6, h7, h1, h2, h3, h4, h8, h9, h7, h1, h2, h3, h4, h10, h11, h7, h1, h2, h3, h4, h12, h13, h7, trivial⟩

theorem word_putsL (nl : Bool) (len : Nat) (cs : List AV) (x : Int) (h0 : (iltB (Int.ofNat 100) (Int.ofNat len)) = true) :
    ∃ h', aCall C03d 60 (Tgt.fn 6) [AV.fsl nl len cs, AV.int IntKind.u64 x] H0 = some (AV.bool true, h') ∧ [].map h'.get = [] :=
  call_run (q := (oc 4 (.y :: []))) (c := (Cnd.tst _ true :: [])) (by kernel_rfl) ⟨h0, trivial⟩


theorem wordPuts_run (nl : Bool) (l : List UInt8) (x : Int) (hnl : nl = true → l.length = 0) (hx : 0 ≤ x) (hx2 : x < 18446744073709551616) :
    ∃ h', aCall C03d 60 (.fn 6) [.fsl nl l.length (ofBytes l), .int .u64 x] H0 = some (.bool true, h') := by
  have lo : ∀ (k : IntKind) (b : Nat), k.signed = false → k.bits = b → 0 ≤ wrapA k x ∧ wrapA k x < 2 ^ b := by
    intro k b h1 h2
    rw [wrapA_eq]
    simp only [IntKind.wrap, h1, h2, Bool.false_and, Bool.false_eq_true, if_false]
    constructor
    · exact Int.emod_nonneg _ (by have : (0 : Int) < 2 ^ b := Int.pow_pos (by decide); omega)
    · exact Int.emod_lt_of_pos _ (Int.pow_pos (by decide))
  have a8 := lo .u8 8 rfl rfl
  have a16 := lo .u16 16 rfl rfl
  have a32 := lo .u32 32 rfl rfl
  simp only [Int.reducePow] at a8 a16 a32
  by_cases hl : l.length ≤ 100
  · obtain ⟨h', h, _⟩ := word_puts nl l.length (ofBytes l) x (by rw [iltB_eq]; exact decide_eq_false (by show ¬ ((100 : Nat) : Int) < (l.length : Int); omega)) (ofBytes_plainL l) (beq_of (ofBytes_length l)) (u8L_ofBytes l) (ble_of hl)
      (by rw [ileB_eq]; exact decide_eq_true a8.1) (by rw [iltB_eq]; exact decide_eq_true a8.2)
      (by cases nl; · rfl
          · exact beq_of (hnl rfl))
      (by rw [ileB_eq]; exact decide_eq_true a16.1) (by rw [iltB_eq]; exact decide_eq_true a16.2) (by rw [ileB_eq]; exact decide_eq_true a32.1) (by rw [iltB_eq]; exact decide_eq_true a32.2) (by rw [ileB_eq]; exact decide_eq_true hx) (by rw [iltB_eq]; exact decide_eq_true hx2)
    exact ⟨h', h⟩
  · obtain ⟨h', h, _⟩ := word_putsL nl l.length (ofBytes l) x (by rw [iltB_eq]; exact decide_eq_true (by show ((100 : Nat) : Int) < (l.length : Int); omega))
    exact ⟨h', h⟩
end Go.Proofs.Ytecncappdnhbaaa
