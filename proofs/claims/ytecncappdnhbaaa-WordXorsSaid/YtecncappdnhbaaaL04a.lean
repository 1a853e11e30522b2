/- Bytes added bit by bit; are all noughts? The loops. -/
import Derived.Test.YtecncappdnhbaaaL03b
import Derived.Test.YtecncappdnhbaaaAbHM
set_option autoImplicit false
set_option linter.unusedVariables false
set_option linter.unusedSimpArgs false
set_option maxRecDepth 100000
noncomputable section
namespace Go.Ab
namespace M
def xorB (n : Nat) (a b : List UInt8) : List UInt8 := (List.range n).map fun i => a.getD i 0 ^^^ b.getD i 0
end M
open M
theorem xorB_length (n : Nat) (a b : List UInt8) : (xorB n a b).length = n := by simp [xorB]
theorem at_ofBytes (l : List UInt8) (i : Nat) (h : i < l.length) : (listAt (List.drop ((Int.ofNat i).toNat * 1) (ofBytes l)) 0).getD AV.undef = .int .u8 ((l.getD i 0).toNat : Int) := by
  have e : List.drop ((Int.ofNat i).toNat * 1) (ofBytes l) = ofBytes (l.drop i) := by
    show List.drop (i * 1) (ofBytes l) = _
    rw [Nat.mul_one, ofBytes_drop]
  rw [e, listAt_ofBytes _ 0 (by rw [List.length_drop]; omega)]
  simp [h]
theorem room_ofBytes (l : List UInt8) (i : Nat) (h : i < l.length) : Nat.ble 1 (List.drop ((Int.ofNat i).toNat * 1) (ofBytes l)).length = true := by
  rw [nble]
  refine decide_eq_true ?_
  show 1 ≤ (List.drop (i * 1) (ofBytes l)).length
  rw [List.length_drop, ofBytes_length]; omega
theorem plainL_append {a b : List AV} (h : AV.plainL a = true) (k : AV.plainL b = true) : AV.plainL (a ++ b) = true := by
  induction a with
  | nil => exact k
  | cons v a ih =>
    simp only [AV.plainL, Bool.and_eq_true, List.cons_append] at h ⊢
    exact ⟨h.1, ih h.2⟩
theorem plainL_drop {a : List AV} (h : AV.plainL a = true) (n : Nat) : AV.plainL (a.drop n) = true := by
  induction a generalizing n with
  | nil => simp [AV.plainL]
  | cons v a ih =>
    cases n with
    | zero => exact h
    | succ n =>
      simp only [AV.plainL, Bool.and_eq_true] at h
      exact ih h.2 n
theorem rowSet_mid (a : List AV) (v w : AV) (c : List AV) : rowSet (a ++ v :: c) a.length [w] = a ++ w :: c := by
  induction a with
  | nil => rfl
  | cons x a ih => show x :: rowSet (a ++ v :: c) a.length [w] = _; rw [ih]; rfl
/-- one byte more. -/
theorem rowSet_next (xs : List UInt8) (cs : List AV) (i : Nat) (hx : i < xs.length) (hc : i < cs.length) : rowSet (ofBytes (xs.take i) ++ cs.drop i) i [.int .u8 ((xs.getD i 0).toNat : Int)] = ofBytes (xs.take (i + 1)) ++ cs.drop (i + 1) := by
  have e1 : cs.drop i = cs[i] :: cs.drop (i + 1) := List.drop_eq_getElem_cons hc
  have e2 : xs.take (i + 1) = xs.take i ++ [xs[i]] := by rw [List.take_add_one, List.getElem?_eq_getElem hx]; rfl
  have e3 : xs.getD i 0 = xs[i] := by simp [hx]
  have h := rowSet_mid (ofBytes (xs.take i)) cs[i] (.int .u8 ((xs.getD i 0).toNat : Int)) (cs.drop (i + 1))
  have hl : (ofBytes (xs.take i)).length = i := by rw [ofBytes_length, List.length_take]; omega
  rw [hl] at h
  rw [e1, h, e2, ofBytes_append, e3]
  simp [ofBytes]
end Go.Ab
namespace Go.Proofs.Ytecncappdnhbaaa
open Go.Ab.M Go.Ab Go
abbrev Ce := mkCxH tys fns [] []
abbrev Se := mkSH tys [] []
theorem allHe : SumAll Try.prog Ce := sums_allH (fun _ h => by cases h) (fun _ h => by cases h)
theorem xor_r (a0 : Bool) (l0 : Nat) (cs0 : List AV) (a1 : Bool) (l1 : Nat) (cs1 : List AV) (n : Nat) (i : Nat) (c : Nat) (cs : List AV) (h0 : (iltB (Int.ofNat i) (Int.ofNat n)) = true) (h1 : ((Int.ofNat i).toNat.succ.ble l0) = true) (h2 : (cs0.length.beq (l0.mul 1)) = true) (h3 : (Nat.ble 1 (List.drop ((Int.ofNat i).toNat * 1) cs0).length) = true) (h4 : (AV.isInt IntKind.u8 ((listAt (List.drop ((Int.ofNat i).toNat * 1) cs0) 0).getD AV.undef)) = true) (h5 : ((Int.ofNat i).toNat.succ.ble l1) = true) (h6 : (cs1.length.beq (l1.mul 1)) = true) (h7 : (Nat.ble 1 (List.drop ((Int.ofNat i).toNat * 1) cs1).length) = true) (h8 : (AV.isInt IntKind.u8 ((listAt (List.drop ((Int.ofNat i).toNat * 1) cs1) 0).getD AV.undef)) = true) (h9 : ((Int.ofNat i).toNat.succ.ble n) = true) (h10 : ((0 + (Int.ofNat i).toNat * 1 + 1).ble n) = true) (hb : Blk.plainB (Blk.cells true 5 n (rowSet cs (0 + (Int.ofNat i).toNat * 1) [AV.int IntKind.u8 (xorN IntKind.u8 ((listAt (List.drop ((Int.ofNat i).toNat * 1) cs0) 0).getD AV.undef).intOf ((listAt (List.drop ((Int.ofNat i).toNat * 1) cs1) 0).getD AV.undef).intOf)])) = true) (hu : AV.plainL [AV.fsl a0 l0 cs0, AV.fsl a1 l1 cs1, AV.int IntKind.i64 (Int.ofNat n), AV.int IntKind.i64 (wrapA IntKind.i64 ((Int.ofNat i).add (Int.ofNat 1)))] = true) :
    CodeOK Try.prog (tyCx tys) 32 0 (roundOf (blockOf Try.f31 0)) { fr := frameOf 32 ((5, AV.slice (some (0, 0)) n (some c)) :: [0, 1, 14, 15].zip [AV.fsl a0 l0 cs0, AV.fsl a1 l1 cs1, AV.int IntKind.i64 (Int.ofNat n), AV.int IntKind.i64 (Int.ofNat i)]), ds := [], H := mk1 (some (Blk.cells true 5 n cs)) } (AX.normal) ⟨frameOf 32 ((5, AV.slice (some (0, 0)) (n) (some c)) :: [0, 1, 14, 15].zip [AV.fsl a0 l0 cs0, AV.fsl a1 l1 cs1, AV.int IntKind.i64 (Int.ofNat n), AV.int IntKind.i64 (wrapA IntKind.i64 ((Int.ofNat i).add (Int.ofNat 1)))]), [], mk1 (some (Blk.cells true 5 n (rowSet cs (0 + (Int.ofNat i).toNat * 1) [AV.int IntKind.u8 (xorN IntKind.u8 ((listAt (List.drop ((Int.ofNat i).toNat * 1) cs0) 0).getD AV.undef).intOf ((listAt (List.drop ((Int.ofNat i).toNat * 1) cs1) 0).getD AV.undef).intOf)])))⟩ :=
  own_run (g := 30) (k := 31) (f := 30) (kk := 0) (cx_goes _ _) allHe (q := (.y :: (oc 1 (.y :: (.y :: (.y :: (.y :: (oc 1 (.y :: (.y :: (.y :: (.y :: (oc 1 (.y :: (oc 2 (.y :: (.y :: (.y :: (.y :: (.y :: (oc 1 (.y :: (.y :: (.y :: (.y :: (.y :: (.y :: (.y :: (.y :: (oc 1 (.y :: (.y :: (.y :: (.y :: (.y :: (.y :: (.y :: (oc 1 (.y :: (.y :: [])))))))))))))))))))))))))))))))))))))))) (c := (Cnd.tst _ true :: Cnd.tst _ true :: Cnd.tst _ true :: Cnd.tst _ true :: Cnd.tst _ true :: Cnd.tst _ true :: Cnd.tst _ true :: Cnd.tst _ true :: Cnd.tst _ true :: Cnd.tst _ true :: Cnd.tst _ true :: Cnd.same (AV.slice (some (0, 0)) n (some c)) (AV.slice (some (0, 0)) n (some c)) :: Cnd.same (AV.int IntKind.i64 (Int.ofNat i)) (AV.int IntKind.i64 (Int.ofNat i)) :: Cnd.same (AV.fsl a0 l0 cs0) (AV.fsl a0 l0 cs0) :: Cnd.same (AV.int IntKind.i64 (Int.ofNat i)) (AV.int IntKind.i64 (Int.ofNat i)) :: Cnd.tst _ true :: Cnd.tst _ true :: Cnd.same (AV.fptr (List.drop ((Int.ofNat i).toNat * 1) cs0)) (AV.fptr (List.drop ((Int.ofNat i).toNat * 1) cs0)) :: Cnd.tst _ true :: Cnd.tst _ true :: Cnd.same (AV.int IntKind.u8 ((listAt (List.drop ((Int.ofNat i).toNat * 1) cs0) 0).getD AV.undef).intOf) (AV.int IntKind.u8 ((listAt (List.drop ((Int.ofNat i).toNat * 1) cs0) 0).getD AV.undef).intOf) :: Cnd.same (AV.fsl a1 l1 cs1) (AV.fsl a1 l1 cs1) :: Cnd.same (AV.int IntKind.i64 (Int.ofNat i)) (AV.int IntKind.i64 (Int.ofNat i)) :: Cnd.tst _ true :: Cnd.tst _ true :: Cnd.same (AV.fptr (List.drop ((Int.ofNat i).toNat * 1) cs1)) (AV.fptr (List.drop ((Int.ofNat i).toNat * 1) cs1)) :: Cnd.tst _ true :: Cnd.tst _ true :: Cnd.same (AV.int IntKind.u8 ((listAt (List.drop ((Int.ofNat i).toNat * 1) cs1) 0).getD AV.undef).intOf) (AV.int IntKind.u8 ((listAt (List.drop ((Int.ofNat i).toNat * 1) cs1) 0).getD AV.undef).intOf) :: Cnd.same (AV.int IntKind.u8 (xorN IntKind.u8 ((listAt (List.drop ((Int.ofNat i).toNat * 1) cs0) 0).getD AV.undef).intOf ((listAt (List.drop ((Int.ofNat i).toNat * 1) cs1) 0).getD AV.undef).intOf)) (AV.int IntKind.u8 (xorN IntKind.u8 ((listAt (List.drop ((Int.ofNat i).toNat * 1) cs0) 0).getD AV.undef).intOf ((listAt (List.drop ((Int.ofNat i).toNat * 1) cs1) 0).getD AV.undef).intOf)) :: Cnd.tst _ true :: Cnd.same (AV.ptr (some (0, 0 + (Int.ofNat i).toNat * 1))) (AV.ptr (some (0, 0 + (Int.ofNat i).toNat * 1))) :: [])) (by kernel_rfl) ⟨h0, h1, h2, h3, h4, h5, h6, h7, h8, h9, h10, rfl, rfl, rfl, rfl, h1, h2, rfl, h3, h4, rfl, rfl, rfl, h5, h6, rfl, h7, h8, rfl, rfl, h9, rfl, trivial⟩ (by kernel_rfl) hb hu
theorem xor_e (a0 : Bool) (l0 : Nat) (cs0 : List AV) (a1 : Bool) (l1 : Nat) (cs1 : List AV) (n : Nat) (i : Nat) (c : Nat) (cs : List AV) (h0 : (iltB (Int.ofNat i) (Int.ofNat n)) = false) (hb : Blk.plainB (Blk.cells true 5 n cs) = true) (hu : AV.plainL [AV.fsl a0 l0 cs0, AV.fsl a1 l1 cs1, AV.int IntKind.i64 (Int.ofNat n), AV.int IntKind.i64 (Int.ofNat i)] = true) :
    CodeOK Try.prog (tyCx tys) 32 0 (roundOf (blockOf Try.f31 0)) { fr := frameOf 32 ((5, AV.slice (some (0, 0)) n (some c)) :: [0, 1, 14, 15].zip [AV.fsl a0 l0 cs0, AV.fsl a1 l1 cs1, AV.int IntKind.i64 (Int.ofNat n), AV.int IntKind.i64 (Int.ofNat i)]), ds := [], H := mk1 (some (Blk.cells true 5 n cs)) } (AX.exit 0) ⟨frameOf 32 ((5, AV.slice (some (0, 0)) (n) (some c)) :: [0, 1, 14, 15].zip [AV.fsl a0 l0 cs0, AV.fsl a1 l1 cs1, AV.int IntKind.i64 (Int.ofNat n), AV.int IntKind.i64 (Int.ofNat i)]), [], mk1 (some (Blk.cells true 5 n cs))⟩ :=
  own_run (g := 30) (k := 31) (f := 30) (kk := 0) (cx_goes _ _) allHe (q := (.z :: [])) (c := (Cnd.tst _ false :: [])) (by kernel_rfl) ⟨h0, trivial⟩ (by kernel_rfl) hb hu
theorem idx_next (nl : Bool) (len : Nat) (cs : List AV) (z : Int) (n : Nat) (i : Nat) (h0 : (iltB (Int.ofNat i) (Int.ofNat n)) = true) (h1 : ((Int.ofNat i).toNat.succ.ble len) = true) (h2 : (cs.length.beq (len.mul 1)) = true) (h3 : (Nat.ble 1 (List.drop ((Int.ofNat i).toNat * 1) cs).length) = true) (h4 : (AV.isInt IntKind.u8 ((listAt (List.drop ((Int.ofNat i).toNat * 1) cs) 0).getD AV.undef)) = true) (h5 : (!ieqB ((listAt (List.drop ((Int.ofNat i).toNat * 1) cs) 0).getD AV.undef).intOf (Int.ofNat 0)) = false) (hu0 : AV.plain (AV.int IntKind.i64 (wrapA IntKind.i64 ((Int.ofNat i).add (Int.ofNat 1)))) = true) (hu : AV.plainL [AV.fsl nl len cs, AV.func 83 [] [], AV.int IntKind.i64 z, AV.int IntKind.i64 (Int.ofNat n)] = true) :
    CodeOK Try.prog (tyCx tys) 19 0 (roundOf (blockOf Try.f101 0)) { fr := frameOf 19 ((8, AV.int IntKind.i64 (Int.ofNat i)) :: [0, 1, 4, 7].zip [AV.fsl nl len cs, AV.func 83 [] [], AV.int IntKind.i64 z, AV.int IntKind.i64 (Int.ofNat n)]), ds := [], H := mk1 none } (AX.normal) ⟨frameOf 19 ((8, AV.int IntKind.i64 (wrapA IntKind.i64 ((Int.ofNat i).add (Int.ofNat 1)))) :: [0, 1, 4, 7].zip [AV.fsl nl len cs, AV.func 83 [] [], AV.int IntKind.i64 z, AV.int IntKind.i64 (Int.ofNat n)]), [], mk1 none⟩ :=
  own_run0 (g := 30) (k := 101) (f := 30) (kk := 0) (bb := Blk.dead) (cx_goes _ _) allHe (q := (.y :: (oc 1 (.y :: (.y :: (.y :: (.y :: (.z :: [])))))))) (c := (Cnd.tst _ true :: Cnd.tst _ true :: Cnd.tst _ true :: Cnd.tst _ true :: Cnd.tst _ true :: Cnd.tst _ false :: [])) (by kernel_rfl) ⟨h0, h1, h2, h3, h4, h5, trivial⟩ (by kernel_rfl) hu0 hu
theorem idx_end (nl : Bool) (len : Nat) (cs : List AV) (z : Int) (n : Nat) (i : Nat) (h0 : (iltB (Int.ofNat i) (Int.ofNat n)) = false) (hu0 : AV.plain (AV.int IntKind.i64 (Int.ofNat i)) = true) (hu : AV.plainL [AV.fsl nl len cs, AV.func 83 [] [], AV.int IntKind.i64 z, AV.int IntKind.i64 (Int.ofNat n)] = true) :
    CodeOK Try.prog (tyCx tys) 19 0 (roundOf (blockOf Try.f101 0)) { fr := frameOf 19 ((8, AV.int IntKind.i64 (Int.ofNat i)) :: [0, 1, 4, 7].zip [AV.fsl nl len cs, AV.func 83 [] [], AV.int IntKind.i64 z, AV.int IntKind.i64 (Int.ofNat n)]), ds := [], H := mk1 none } (AX.exit 0) ⟨frameOf 19 ((8, AV.int IntKind.i64 (Int.ofNat i)) :: [0, 1, 4, 7].zip [AV.fsl nl len cs, AV.func 83 [] [], AV.int IntKind.i64 z, AV.int IntKind.i64 (Int.ofNat n)]), [], mk1 none⟩ :=
  own_run0 (g := 30) (k := 101) (f := 30) (kk := 0) (bb := Blk.dead) (cx_goes _ _) allHe (q := (.z :: [])) (c := (Cnd.tst _ false :: [])) (by kernel_rfl) ⟨h0, trivial⟩ (by kernel_rfl) hu0 hu
theorem idx_hit (nl : Bool) (len : Nat) (cs : List AV) (z : Int) (n : Nat) (i : Nat) (h0 : (iltB (Int.ofNat i) (Int.ofNat n)) = true) (h1 : ((Int.ofNat i).toNat.succ.ble len) = true) (h2 : (cs.length.beq (len.mul 1)) = true) (h3 : (Nat.ble 1 (List.drop ((Int.ofNat i).toNat * 1) cs).length) = true) (h4 : (AV.isInt IntKind.u8 ((listAt (List.drop ((Int.ofNat i).toNat * 1) cs) 0).getD AV.undef)) = true) (h5 : (!ieqB ((listAt (List.drop ((Int.ofNat i).toNat * 1) cs) 0).getD AV.undef).intOf (Int.ofNat 0)) = true) (hu0 : AV.plain (AV.int IntKind.i64 (Int.ofNat i)) = true) (hu : AV.plainL [AV.fsl nl len cs, AV.func 83 [] [], AV.int IntKind.i64 (Int.ofNat i), AV.int IntKind.i64 (Int.ofNat n)] = true) :
    CodeOK Try.prog (tyCx tys) 19 0 (roundOf (blockOf Try.f101 0)) { fr := frameOf 19 ((8, AV.int IntKind.i64 (Int.ofNat i)) :: [0, 1, 4, 7].zip [AV.fsl nl len cs, AV.func 83 [] [], AV.int IntKind.i64 z, AV.int IntKind.i64 (Int.ofNat n)]), ds := [], H := mk1 none } (AX.ret) ⟨frameOf 19 ((8, AV.int IntKind.i64 (Int.ofNat i)) :: [0, 1, 4, 7].zip [AV.fsl nl len cs, AV.func 83 [] [], AV.int IntKind.i64 (Int.ofNat i), AV.int IntKind.i64 (Int.ofNat n)]), [], mk1 none⟩ :=
  own_run0 (g := 30) (k := 101) (f := 30) (kk := 0) (bb := Blk.dead) (cx_goes _ _) allHe (q := (.y :: (oc 1 (.y :: (.y :: (.y :: (.y :: (.y :: [])))))))) (c := (Cnd.tst _ true :: Cnd.tst _ true :: Cnd.tst _ true :: Cnd.tst _ true :: Cnd.tst _ true :: Cnd.tst _ true :: [])) (by kernel_rfl) ⟨h0, h1, h2, h3, h4, h5, trivial⟩ (by kernel_rfl) hu0 hu
structure XorS where
  a0 : Bool
  l : List UInt8
  a1 : Bool
  m : List UInt8
  n : Nat
  c : Nat
  cs : List AV
  i : Nat
def XorS.enc (p : XorS) : HSt := (.slice (some (0, 0)) p.n (some p.c), some (.cells true 5 p.n (ofBytes ((xorB p.n p.l p.m).take p.i) ++ p.cs.drop p.i)), [.fsl p.a0 p.l.length (ofBytes p.l), .fsl p.a1 p.m.length (ofBytes p.m), .int .i64 (.ofNat p.n), .int .i64 (.ofNat p.i)])
def XorS.fin (p : XorS) : AX × HSt := (.exit 0, .slice (some (0, 0)) p.n (some p.c), some (.cells true 5 p.n (ofBytes (xorB p.n p.l p.m))), [.fsl p.a0 p.l.length (ofBytes p.l), .fsl p.a1 p.m.length (ofBytes p.m), .int .i64 (.ofNat p.n), .int .i64 (.ofNat p.n)])
def XorS.ok (p : XorS) : Prop := p.n ≤ p.l.length ∧ p.n ≤ p.m.length ∧ p.cs.length = p.n ∧ AV.plainL p.cs = true ∧ p.i ≤ p.n ∧ p.n ≤ 1000000000000
def xorL : HLoop := ⟨32, blockOf Try.f31 0, 5, [0, 1, 14, 15], fun v ob us => match v, ob, us with
  | .slice (some (0, 0)) n (some c), some (.cells true 5 nc cs), [.fsl a0 l0 cs0, .fsl a1 l1 cs1, .int .i64 (.ofNat n'), .int .i64 (.ofNat 0)] =>
    some ([Nat.beq n' n, Nat.beq nc n, Nat.beq cs.length n, u8L cs0, u8L cs1, Nat.beq cs0.length l0, Nat.beq cs1.length l1, Nat.ble n l0, Nat.ble n l1, Nat.ble n 1000000000000], .normal, .slice (some (0, 0)) n (some c), some (.cells true 5 n (kept (ofBytes (xorB n (bytesL cs0) (bytesL cs1))))), [.fsl a0 l0 cs0, .fsl a1 l1 cs1, .int .i64 (.ofNat n), .int .i64 (.ofNat n)])
  | _, _, _ => none⟩
theorem plain_fsls {a0 a1 : Bool} {l m : List UInt8} {x y : Int} : AV.plainL [.fsl a0 l.length (ofBytes l), .fsl a1 m.length (ofBytes m), .int .i64 x, .int .i64 y] = true := by
  simp [AV.plainL, AV.plain, ofBytes_plainL]
theorem xorL_ok : xorL.OK Try.prog (tyCx tys) 0 := by
  refine HLoop.ok_by (b := roundOf (blockOf Try.f31 0)) (by kernel_rfl) XorS.enc XorS.fin XorS.ok (fun p => p.n - p.i) ?_ ?_
  · intro v ob us conds X v' ob' us' h hc hpl hin
    simp only [xorL] at h
    split at h
    · rename_i n c nc cs a0 l0 cs0 a1 l1 cs1 n'
      injection h with h; injection h with e1 h; injection h with e2 h; injection h with e3 h; injection h with e4 e5
      rw [kept_eq] at e4
      subst e1; subst e2; subst e3; subst e4; subst e5
      simp only [allTrue_cons] at hc
      obtain ⟨c1, c2, c3, c4, c5, c6, c7, c8, c9, c10, _⟩ := hc
      have c1 := eq_of_beq' c1
      have c2 := eq_of_beq' c2
      have c3 := eq_of_beq' c3
      obtain ⟨l, rfl⟩ := u8L_iff.1 c4
      obtain ⟨m, rfl⟩ := u8L_iff.1 c5
      have c6 := eq_of_beq' c6
      have c7 := eq_of_beq' c7
      rw [ofBytes_length] at c6 c7
      subst c1; subst c2; subst c6; subst c7
      have hcp : AV.plainL cs = true := by
        have := hin.1
        simpa [Blk.plainB] using this
      refine ⟨⟨a0, l, a1, m, _, c, cs, 0⟩, ⟨Nat.le_of_ble_eq_true c8, Nat.le_of_ble_eq_true c9, c3, hcp, Nat.zero_le _, Nat.le_of_ble_eq_true c10⟩, ?_, rfl, ?_, plain_fsls, ?_⟩
      · simp [XorS.enc, ofBytes]
      · simp only [XorS.fin, bytesL_ofBytes]
      · exact ⟨by simp [Blk.plainB, ofBytes_plainL], rfl⟩
    · cases h
  · rintro ⟨a0, l, a1, m, n, c, cs, i⟩ ⟨h1, h2, h3, h4, h5, h6⟩
    simp only at h1 h2 h3 h4 h5 h6
    by_cases hi : i < n
    · left
      refine ⟨⟨a0, l, a1, m, n, c, cs, i + 1⟩, ⟨h1, h2, h3, h4, hi, h6⟩, rfl, by simp only; omega, ?_⟩
      have e : rowSet (ofBytes ((xorB n l m).take i) ++ cs.drop i) (0 + (Int.ofNat i).toNat * 1) [AV.int IntKind.u8 (xorN IntKind.u8 ((listAt (List.drop ((Int.ofNat i).toNat * 1) (ofBytes l)) 0).getD AV.undef).intOf ((listAt (List.drop ((Int.ofNat i).toNat * 1) (ofBytes m)) 0).getD AV.undef).intOf)] = ofBytes ((xorB n l m).take (i + 1)) ++ cs.drop (i + 1) := by
        rw [at_ofBytes l i (by omega), at_ofBytes m i (by omega)]
        simp only [AV.intOf]
        have b1 := (l.getD i 0).toNat_lt
        have b2 := (m.getD i 0).toNat_lt
        rw [xorN_nat .u8 _ _ b1 b2, ← UInt8.toNat_xor]
        have e0 : (0 + (Int.ofNat i).toNat * 1) = i := by show 0 + i * 1 = i; omega
        have e1 : l.getD i 0 ^^^ m.getD i 0 = (xorB n l m).getD i 0 := by simp [xorB, hi]
        rw [e0, e1]
        exact rowSet_next _ _ _ (by rw [xorB_length]; exact hi) (by omega)
      have ew : wrapA IntKind.i64 ((Int.ofNat i).add (Int.ofNat 1)) = Int.ofNat (i + 1) := i64_add i 1 (by omega)
      have hp : AV.plainL (ofBytes ((xorB n l m).take (i + 1)) ++ cs.drop (i + 1)) = true := plainL_append (ofBytes_plainL _) (plainL_drop h4 _)
      have h := xor_r a0 l.length (ofBytes l) a1 m.length (ofBytes m) n i c (ofBytes ((xorB n l m).take i) ++ cs.drop i) (by rw [iltB_eq]; exact decide_eq_true (by show (i : Int) < (n : Int); omega)) (ble_of (by show i + 1 ≤ _; omega)) (beq_of1 (ofBytes_length l)) (room_ofBytes l i (by omega)) (by rw [at_ofBytes l i (by omega)]; rfl) (ble_of (by show i + 1 ≤ _; omega)) (beq_of1 (ofBytes_length m)) (room_ofBytes m i (by omega)) (by rw [at_ofBytes m i (by omega)]; rfl) (ble_of (by show i + 1 ≤ _; omega)) (ble_of (by show 0 + i * 1 + 1 ≤ _; omega)) (by rw [e]; simp [Blk.plainB, hp]) (by rw [ew]; exact plain_fsls)
      rw [e, ew] at h
      exact h
    · have hi : i = n := by omega
      subst hi
      right
      refine ⟨by simp [XorS.fin], ?_⟩
      have e : ofBytes ((xorB i l m).take i) ++ cs.drop i = ofBytes (xorB i l m) := by
        rw [List.take_of_length_le (by rw [xorB_length]; exact Nat.le_refl _), List.drop_eq_nil_of_le (by omega), List.append_nil]
      have h := xor_e a0 l.length (ofBytes l) a1 m.length (ofBytes m) i i c (ofBytes ((xorB i l m).take i) ++ cs.drop i) (by rw [iltB_eq]; exact decide_eq_false (by show ¬ (i : Int) < (i : Int); omega)) (by rw [e]; simp [Blk.plainB, ofBytes_plainL]) plain_fsls
      rw [e] at h
      show CodeOK Try.prog (tyCx tys) 32 0 _ ⟨frameOf 32 ((5, AV.slice (some (0, 0)) i (some c)) :: [0, 1, 14, 15].zip [AV.fsl a0 l.length (ofBytes l), AV.fsl a1 m.length (ofBytes m), AV.int IntKind.i64 (Int.ofNat i), AV.int IntKind.i64 (Int.ofNat i)]), [], mk1 (some (Blk.cells true 5 i (ofBytes ((xorB i l m).take i) ++ cs.drop i)))⟩ _ _
      rw [e]
      exact h
end Go.Proofs.Ytecncappdnhbaaa
