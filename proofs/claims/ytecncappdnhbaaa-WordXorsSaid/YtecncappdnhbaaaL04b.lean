/- Are all noughts? and the law's own loop. -/
import Derived.Test.YtecncappdnhbaaaL04a
set_option autoImplicit false
set_option linter.unusedVariables false
set_option linter.unusedSimpArgs false
set_option maxRecDepth 100000
noncomputable section
namespace Go.Ab
namespace M
def zeroL (cs : List AV) : Bool := kept ((bytesL cs).all fun b => b == 0)
def firstNZ (cs : List AV) : Nat := kept ((bytesL cs).findIdx fun b => b != 0)
def eqXor (n : Nat) (cs a b : List AV) : Bool := kept (bytesEq (bytesL cs) (xorB n (bytesL a) (bytesL b)))
end M
open M
theorem low_bit (n k : Nat) : (n >>> k) &&& 1 = (n.testBit k).toNat := by
  have h : n.testBit k = (1 &&& (n >>> k) != 0) := rfl
  rw [h, Nat.and_comm, Nat.and_comm 1, Nat.and_one_is_mod]
  have : (n >>> k) % 2 = 0 ∨ (n >>> k) % 2 = 1 := by omega
  rcases this with e | e <;> rw [e] <;> rfl
theorem bit_of (a : UInt8) (k : Nat) : andN .u8 (shrN (a.toNat : Int) k) (Int.ofNat 1) = (((a.toNat.testBit k).toNat : Nat) : Int) := by
  have ha := a.toNat_lt
  have e : shrN (a.toNat : Int) k = ((a.toNat >>> k : Nat) : Int) := by
    rw [Nat.shiftRight_eq_div_pow]; rfl
  have hlt : a.toNat >>> k < 256 := Nat.lt_of_le_of_lt (Nat.shiftRight_le _ _) ha
  rw [e]
  have h := andN_nat .u8 (a.toNat >>> k) 1 hlt (by decide)
  have h2 : ((1 : Nat) : Int) = Int.ofNat 1 := rfl
  rw [h2] at h
  rw [h, low_bit]
theorem bit_ok (a b : UInt8) (k : Nat) : (!ieqB (andN IntKind.u8 (shrN ((a ^^^ b).toNat : Int) k) (Int.ofNat 1)) (Int.ofNat 1) == !ieqB (andN IntKind.u8 (shrN (a.toNat : Int) k) (Int.ofNat 1)) (andN IntKind.u8 (shrN (b.toNat : Int) k) (Int.ofNat 1))) = false := by
  rw [bit_of, bit_of, bit_of, UInt8.toNat_xor, Nat.testBit_xor]
  cases a.toNat.testBit k <;> cases b.toNat.testBit k <;> rfl
end Go.Ab
namespace Go.Proofs.Ytecncappdnhbaaa
open Go.Ab.M Go.Ab Go
theorem plain_idx {nl : Bool} {l : List UInt8} {x y : Int} : AV.plainL [.fsl nl l.length (ofBytes l), .func 83 [] [], .int .i64 x, .int .i64 y] = true := by
  simp [AV.plainL, AV.plain, ofBytes_plainL]
structure IdxS where
  nl : Bool
  l : List UInt8
  z : Int
  i : Nat
def IdxS.enc (p : IdxS) : HSt := (.int .i64 (.ofNat p.i), none, [.fsl p.nl p.l.length (ofBytes p.l), .func 83 [] [], .int .i64 p.z, .int .i64 (.ofNat p.l.length)])
def IdxS.finZ (p : IdxS) : AX × HSt := (.exit 0, .int .i64 (.ofNat p.l.length), none, [.fsl p.nl p.l.length (ofBytes p.l), .func 83 [] [], .int .i64 p.z, .int .i64 (.ofNat p.l.length)])
def IdxS.finN (p : IdxS) : AX × HSt := (.ret, .int .i64 (.ofNat (p.l.findIdx fun b => b != 0)), none, [.fsl p.nl p.l.length (ofBytes p.l), .func 83 [] [], .int .i64 (.ofNat (p.l.findIdx fun b => b != 0)), .int .i64 (.ofNat p.l.length)])
theorem idx_go (nl : Bool) (l : List UInt8) (z : Int) (i : Nat) (hi : i < l.length) (hb : l.length ≤ 1000000000000) (h0 : l.getD i 0 = 0) : CodeOK Try.prog (tyCx tys) 19 0 (roundOf (blockOf Try.f101 0)) { fr := frameOf 19 ((8, AV.int IntKind.i64 (Int.ofNat i)) :: [0, 1, 4, 7].zip [.fsl nl l.length (ofBytes l), AV.func 83 [] [], AV.int IntKind.i64 z, AV.int IntKind.i64 (Int.ofNat l.length)]), ds := [], H := mk1 none } AX.normal { fr := frameOf 19 ((8, AV.int IntKind.i64 (Int.ofNat (i + 1))) :: [0, 1, 4, 7].zip [.fsl nl l.length (ofBytes l), AV.func 83 [] [], AV.int IntKind.i64 z, AV.int IntKind.i64 (Int.ofNat l.length)]), ds := [], H := mk1 none } := by
  have ew : wrapA IntKind.i64 ((Int.ofNat i).add (Int.ofNat 1)) = Int.ofNat (i + 1) := i64_add i 1 (by omega)
  have h := idx_next nl l.length (ofBytes l) z l.length i (by rw [iltB_eq]; exact decide_eq_true (by show (i : Int) < (l.length : Int); omega)) (ble_of (by show i + 1 ≤ _; omega)) (beq_of1 (ofBytes_length l)) (room_ofBytes l i hi) (by rw [at_ofBytes l i hi]; rfl) (by rw [at_ofBytes l i hi, h0]; rfl) rfl plain_idx
  rw [ew] at h
  exact h
def idxZ : HLoop := ⟨19, blockOf Try.f101 0, 8, [0, 1, 4, 7], fun v ob us => match v, ob, us with
  | .int .i64 (.ofNat 0), none, [.fsl nl len cs, .func 83 [] [], .int .i64 z, .int .i64 (.ofNat n)] =>
    some ([u8L cs, Nat.beq cs.length len, Nat.beq n len, zeroL cs, Nat.ble len 1000000000000], .normal, .int .i64 (.ofNat n), none, [.fsl nl len cs, .func 83 [] [], .int .i64 z, .int .i64 (.ofNat n)])
  | _, _, _ => none⟩
theorem idxZ_ok : idxZ.OK Try.prog (tyCx tys) 0 := by
  refine HLoop.ok_by (b := roundOf (blockOf Try.f101 0)) (by kernel_rfl) IdxS.enc IdxS.finZ (fun p => p.i ≤ p.l.length ∧ p.l.length ≤ 1000000000000 ∧ ∀ i, i < p.l.length → p.l.getD i 0 = 0) (fun p => p.l.length - p.i) ?_ ?_
  · intro v ob us conds X v' ob' us' h hc hpl hin
    simp only [idxZ] at h
    split at h
    · rename_i nl len cs z n
      injection h with h; injection h with e1 h; injection h with e2 h; injection h with e3 h; injection h with e4 e5
      subst e1; subst e2; subst e3; subst e4; subst e5
      simp only [allTrue_cons] at hc
      obtain ⟨c1, c2, c3, c4, c5, _⟩ := hc
      obtain ⟨l, rfl⟩ := u8L_iff.1 c1
      have c2 := eq_of_beq' c2
      have c3 := eq_of_beq' c3
      rw [ofBytes_length] at c2
      subst c2; subst c3
      refine ⟨⟨nl, l, z, 0⟩, ⟨Nat.zero_le _, Nat.le_of_ble_eq_true c5, ?_⟩, rfl, rfl, rfl, plain_idx, rfl⟩
      intro i hi
      unfold zeroL at c4
      rw [kept_eq, bytesL_ofBytes, List.all_eq_true] at c4
      have := c4 l[i] (List.getElem_mem hi)
      simpa [hi] using this
    · cases h
  · rintro ⟨nl, l, z, i⟩ ⟨h1, h2, h3⟩
    simp only at h1 h2 h3
    by_cases hi : i < l.length
    · left
      exact ⟨⟨nl, l, z, i + 1⟩, ⟨hi, h2, h3⟩, rfl, by simp only; omega, idx_go nl l z i hi h2 (h3 i hi)⟩
    · have hi : i = l.length := by omega
      subst hi
      right
      exact ⟨by simp [IdxS.finZ], idx_end nl l.length (ofBytes l) z l.length l.length (by rw [iltB_eq]; exact decide_eq_false (by show ¬ (l.length : Int) < (l.length : Int); omega)) rfl plain_idx⟩
def idxN : HLoop := ⟨19, blockOf Try.f101 0, 8, [0, 1, 4, 7], fun v ob us => match v, ob, us with
  | .int .i64 (.ofNat 0), none, [.fsl nl len cs, .func 83 [] [], .int .i64 z, .int .i64 (.ofNat n)] =>
    some ([u8L cs, Nat.beq cs.length len, Nat.beq n len, !zeroL cs, Nat.ble len 1000000000000], .ret, .int .i64 (.ofNat (firstNZ cs)), none, [.fsl nl len cs, .func 83 [] [], .int .i64 (.ofNat (firstNZ cs)), .int .i64 (.ofNat n)])
  | _, _, _ => none⟩
theorem idxN_ok : idxN.OK Try.prog (tyCx tys) 0 := by
  refine HLoop.ok_by (b := roundOf (blockOf Try.f101 0)) (by kernel_rfl) IdxS.enc IdxS.finN (fun p => p.i ≤ (p.l.findIdx fun b => b != 0) ∧ p.l.length ≤ 1000000000000 ∧ (p.l.findIdx fun b => b != 0) < p.l.length) (fun p => p.l.length - p.i) ?_ ?_
  · intro v ob us conds X v' ob' us' h hc hpl hin
    simp only [idxN] at h
    split at h
    · rename_i nl len cs z n
      injection h with h; injection h with e1 h; injection h with e2 h; injection h with e3 h; injection h with e4 e5
      unfold firstNZ at e3 e5
      rw [kept_eq] at e3 e5
      subst e1; subst e2; subst e3; subst e4; subst e5
      simp only [allTrue_cons] at hc
      obtain ⟨c1, c2, c3, c4, c5, _⟩ := hc
      obtain ⟨l, rfl⟩ := u8L_iff.1 c1
      have c2 := eq_of_beq' c2
      have c3 := eq_of_beq' c3
      rw [ofBytes_length] at c2
      subst c2; subst c3
      rw [bytesL_ofBytes]
      refine ⟨⟨nl, l, z, 0⟩, ⟨Nat.zero_le _, Nat.le_of_ble_eq_true c5, ?_⟩, rfl, rfl, rfl, plain_idx, rfl⟩
      unfold zeroL at c4
      rw [kept_eq, bytesL_ofBytes] at c4
      simp only
      rw [List.findIdx_lt_length]
      simp only [Bool.not_eq_true', List.all_eq_false] at c4
      obtain ⟨b, hb, hn⟩ := c4
      exact ⟨b, hb, by simpa using hn⟩
    · cases h
  · rintro ⟨nl, l, z, i⟩ ⟨h1, h2, h3⟩
    simp only at h1 h2 h3
    by_cases hi : i < l.findIdx fun b => b != 0
    · left
      refine ⟨⟨nl, l, z, i + 1⟩, ⟨hi, h2, h3⟩, rfl, by simp only; omega, idx_go nl l z i (by omega) h2 ?_⟩
      have := List.not_of_lt_findIdx hi
      simpa [show i < l.length by omega] using this
    · right
      have hi : i = l.findIdx fun b => b != 0 := by omega
      refine ⟨by simp [IdxS.finN], ?_⟩
      have hlt : i < l.length := by omega
      have hne : l.getD i 0 ≠ 0 := by
        have := List.findIdx_getElem (w := h3)
        simpa [← hi, hlt] using this
      have h := idx_hit nl l.length (ofBytes l) z l.length i (by rw [iltB_eq]; exact decide_eq_true (by show (i : Int) < (l.length : Int); omega)) (ble_of (by show i + 1 ≤ _; omega)) (beq_of1 (ofBytes_length l)) (room_ofBytes l i hlt) (by rw [at_ofBytes l i hlt]; rfl) (by
        rw [at_ofBytes l i hlt]
        simp only [AV.intOf]
        rw [ieqB_eq]
        have : ¬ ((l.getD i 0).toNat : Int) = Int.ofNat 0 := by
          intro e
          apply hne
          have : (l.getD i 0).toNat = 0 := by
            have e : ((l.getD i 0).toNat : Int) = ((0 : Nat) : Int) := e
            omega
          exact UInt8.toNat_inj.1 this
        simpa using this) rfl plain_idx
      have e : IdxS.finN ⟨nl, l, z, i⟩ = (.ret, .int .i64 (.ofNat i), none, [.fsl nl l.length (ofBytes l), .func 83 [] [], .int .i64 (.ofNat i), .int .i64 (.ofNat l.length)]) := by
        simp only [IdxS.finN, ← hi]
      rw [e]
      exact h
theorem law_r (a0 : Bool) (l0 : Nat) (cs0 : List AV) (a1 : Bool) (l1 : Nat) (cs1 : List AV) (z : Int) (n : Nat) (i : Nat) (c : Nat) (cs : List AV) (h0 : (iltB (Int.ofNat i) (Int.ofNat n)) = true) (h1 : ((Int.ofNat i).toNat.succ.ble n) = true) (h2 : ((0 + (Int.ofNat i).toNat * 1).succ.ble n) = true) (h3 : ((0 + (Int.ofNat i).toNat * 1).succ.ble cs.length) = true) (h4 : (AV.isInt IntKind.u8 ((listAt cs (0 + (Int.ofNat i).toNat * 1)).getD AV.undef)) = true) (h5 : ((Int.ofNat i).toNat.succ.ble l0) = true) (h6 : (cs0.length.beq (l0.mul 1)) = true) (h7 : (Nat.ble 1 (List.drop ((Int.ofNat i).toNat * 1) cs0).length) = true) (h8 : (AV.isInt IntKind.u8 ((listAt (List.drop ((Int.ofNat i).toNat * 1) cs0) 0).getD AV.undef)) = true) (h9 : ((Int.ofNat i).toNat.succ.ble l1) = true) (h10 : (cs1.length.beq (l1.mul 1)) = true) (h11 : (Nat.ble 1 (List.drop ((Int.ofNat i).toNat * 1) cs1).length) = true) (h12 : (AV.isInt IntKind.u8 ((listAt (List.drop ((Int.ofNat i).toNat * 1) cs1) 0).getD AV.undef)) = true) (h13 : (!ieqB (andN IntKind.u8 (shrN ((listAt cs (0 + (Int.ofNat i).toNat * 1)).getD AV.undef).intOf 0) (Int.ofNat 1)) (Int.ofNat 1) == !ieqB (andN IntKind.u8 (shrN ((listAt (List.drop ((Int.ofNat i).toNat * 1) cs0) 0).getD AV.undef).intOf 0) (Int.ofNat 1)) (andN IntKind.u8 (shrN ((listAt (List.drop ((Int.ofNat i).toNat * 1) cs1) 0).getD AV.undef).intOf 0) (Int.ofNat 1))) = false) (h14 : (!ieqB (andN IntKind.u8 (shrN ((listAt cs (0 + (Int.ofNat i).toNat * 1)).getD AV.undef).intOf 1) (Int.ofNat 1)) (Int.ofNat 1) == !ieqB (andN IntKind.u8 (shrN ((listAt (List.drop ((Int.ofNat i).toNat * 1) cs0) 0).getD AV.undef).intOf 1) (Int.ofNat 1)) (andN IntKind.u8 (shrN ((listAt (List.drop ((Int.ofNat i).toNat * 1) cs1) 0).getD AV.undef).intOf 1) (Int.ofNat 1))) = false) (h15 : (!ieqB (andN IntKind.u8 (shrN ((listAt cs (0 + (Int.ofNat i).toNat * 1)).getD AV.undef).intOf 2) (Int.ofNat 1)) (Int.ofNat 1) == !ieqB (andN IntKind.u8 (shrN ((listAt (List.drop ((Int.ofNat i).toNat * 1) cs0) 0).getD AV.undef).intOf 2) (Int.ofNat 1)) (andN IntKind.u8 (shrN ((listAt (List.drop ((Int.ofNat i).toNat * 1) cs1) 0).getD AV.undef).intOf 2) (Int.ofNat 1))) = false) (h16 : (!ieqB (andN IntKind.u8 (shrN ((listAt cs (0 + (Int.ofNat i).toNat * 1)).getD AV.undef).intOf 3) (Int.ofNat 1)) (Int.ofNat 1) == !ieqB (andN IntKind.u8 (shrN ((listAt (List.drop ((Int.ofNat i).toNat * 1) cs0) 0).getD AV.undef).intOf 3) (Int.ofNat 1)) (andN IntKind.u8 (shrN ((listAt (List.drop ((Int.ofNat i).toNat * 1) cs1) 0).getD AV.undef).intOf 3) (Int.ofNat 1))) = false) (h17 : (!ieqB (andN IntKind.u8 (shrN ((listAt cs (0 + (Int.ofNat i).toNat * 1)).getD AV.undef).intOf 4) (Int.ofNat 1)) (Int.ofNat 1) == !ieqB (andN IntKind.u8 (shrN ((listAt (List.drop ((Int.ofNat i).toNat * 1) cs0) 0).getD AV.undef).intOf 4) (Int.ofNat 1)) (andN IntKind.u8 (shrN ((listAt (List.drop ((Int.ofNat i).toNat * 1) cs1) 0).getD AV.undef).intOf 4) (Int.ofNat 1))) = false) (h18 : (!ieqB (andN IntKind.u8 (shrN ((listAt cs (0 + (Int.ofNat i).toNat * 1)).getD AV.undef).intOf 5) (Int.ofNat 1)) (Int.ofNat 1) == !ieqB (andN IntKind.u8 (shrN ((listAt (List.drop ((Int.ofNat i).toNat * 1) cs0) 0).getD AV.undef).intOf 5) (Int.ofNat 1)) (andN IntKind.u8 (shrN ((listAt (List.drop ((Int.ofNat i).toNat * 1) cs1) 0).getD AV.undef).intOf 5) (Int.ofNat 1))) = false) (h19 : (!ieqB (andN IntKind.u8 (shrN ((listAt cs (0 + (Int.ofNat i).toNat * 1)).getD AV.undef).intOf 6) (Int.ofNat 1)) (Int.ofNat 1) == !ieqB (andN IntKind.u8 (shrN ((listAt (List.drop ((Int.ofNat i).toNat * 1) cs0) 0).getD AV.undef).intOf 6) (Int.ofNat 1)) (andN IntKind.u8 (shrN ((listAt (List.drop ((Int.ofNat i).toNat * 1) cs1) 0).getD AV.undef).intOf 6) (Int.ofNat 1))) = false) (h20 : (!ieqB (andN IntKind.u8 (shrN ((listAt cs (0 + (Int.ofNat i).toNat * 1)).getD AV.undef).intOf 7) (Int.ofNat 1)) (Int.ofNat 1) == !ieqB (andN IntKind.u8 (shrN ((listAt (List.drop ((Int.ofNat i).toNat * 1) cs0) 0).getD AV.undef).intOf 7) (Int.ofNat 1)) (andN IntKind.u8 (shrN ((listAt (List.drop ((Int.ofNat i).toNat * 1) cs1) 0).getD AV.undef).intOf 7) (Int.ofNat 1))) = false) (hb : Blk.plainB (Blk.cells true 5 n cs) = true) (hu : AV.plainL [AV.fsl a0 l0 cs0, AV.fsl a1 l1 cs1, AV.int IntKind.i64 z, AV.int IntKind.i64 (Int.ofNat n), AV.int IntKind.i64 (wrapA IntKind.i64 ((Int.ofNat i).add (Int.ofNat 1)))] = true) :
    CodeOK Try.prog (tyCx tys) 94 0 (roundOf (blockOf Try.f7 0)) { fr := frameOf 94 ((6, AV.slice (some (0, 0)) n (some c)) :: [0, 1, 5, 46, 47].zip [AV.fsl a0 l0 cs0, AV.fsl a1 l1 cs1, AV.int IntKind.i64 z, AV.int IntKind.i64 (Int.ofNat n), AV.int IntKind.i64 (Int.ofNat i)]), ds := [], H := mk1 (some (Blk.cells true 5 n cs)) } (AX.normal) ⟨frameOf 94 ((6, AV.slice (some (0, 0)) (n) (some c)) :: [0, 1, 5, 46, 47].zip [AV.fsl a0 l0 cs0, AV.fsl a1 l1 cs1, AV.int IntKind.i64 z, AV.int IntKind.i64 (Int.ofNat n), AV.int IntKind.i64 (wrapA IntKind.i64 ((Int.ofNat i).add (Int.ofNat 1)))]), [], mk1 (some (Blk.cells true 5 n cs))⟩ :=
  own_run (g := 30) (k := 7) (f := 30) (kk := 0) (cx_goes _ _) allHe (q := (.y :: (oc 2 (.y :: (.y :: (.y :: (.y :: (oc 2 (.y :: (.y :: (.y :: (.y :: (oc 2 (.y :: (.y :: (.y :: (.y :: (oc 1 (.z :: (oc 2 (.y :: (.y :: (.y :: (.y :: (oc 2 (.y :: (.y :: (.y :: (.y :: (oc 2 (.y :: (.y :: (.y :: (.y :: (oc 1 (.z :: (oc 2 (.y :: (.y :: (.y :: (.y :: (oc 2 (.y :: (.y :: (.y :: (.y :: (oc 2 (.y :: (.y :: (.y :: (.y :: (oc 1 (.z :: (oc 2 (.y :: (.y :: (.y :: (.y :: (oc 2 (.y :: (.y :: (.y :: (.y :: (oc 2 (.y :: (.y :: (.y :: (.y :: (oc 1 (.z :: (oc 2 (.y :: (.y :: (.y :: (.y :: (oc 2 (.y :: (.y :: (.y :: (.y :: (oc 2 (.y :: (.y :: (.y :: (.y :: (oc 1 (.z :: (oc 2 (.y :: (.y :: (.y :: (.y :: (oc 2 (.y :: (.y :: (.y :: (.y :: (oc 2 (.y :: (.y :: (.y :: (.y :: (oc 1 (.z :: (oc 2 (.y :: (.y :: (.y :: (.y :: (oc 2 (.y :: (.y :: (.y :: (.y :: (oc 2 (.y :: (.y :: (.y :: (.y :: (oc 1 (.z :: (oc 2 (.y :: (.y :: (.y :: (.y :: (oc 2 (.y :: (.y :: (.y :: (.y :: (oc 2 (.y :: (.y :: (.y :: (.y :: (oc 1 (.z :: (oc 1 []))))))))))))))))))))))))))))))))))))))))))))))))))))))))))))))))))))))))))))))))))))))))))))))))))))))))))))))))))))))))))))))))))))))))))) (c := (Cnd.tst _ true :: Cnd.tst _ true :: Cnd.tst _ true :: Cnd.tst _ true :: Cnd.tst _ true :: Cnd.tst _ true :: Cnd.tst _ true :: Cnd.tst _ true :: Cnd.tst _ true :: Cnd.tst _ true :: Cnd.tst _ true :: Cnd.tst _ true :: Cnd.tst _ true :: Cnd.tst _ false :: Cnd.tst _ true :: Cnd.tst _ true :: Cnd.tst _ true :: Cnd.tst _ true :: Cnd.tst _ true :: Cnd.tst _ true :: Cnd.tst _ true :: Cnd.tst _ true :: Cnd.tst _ true :: Cnd.tst _ true :: Cnd.tst _ true :: Cnd.tst _ true :: Cnd.tst _ false :: Cnd.tst _ true :: Cnd.tst _ true :: Cnd.tst _ true :: Cnd.tst _ true :: Cnd.tst _ true :: Cnd.tst _ true :: Cnd.tst _ true :: Cnd.tst _ true :: Cnd.tst _ true :: Cnd.tst _ true :: Cnd.tst _ true :: Cnd.tst _ true :: Cnd.tst _ false :: Cnd.tst _ true :: Cnd.tst _ true :: Cnd.tst _ true :: Cnd.tst _ true :: Cnd.tst _ true :: Cnd.tst _ true :: Cnd.tst _ true :: Cnd.tst _ true :: Cnd.tst _ true :: Cnd.tst _ true :: Cnd.tst _ true :: Cnd.tst _ true :: Cnd.tst _ false :: Cnd.tst _ true :: Cnd.tst _ true :: Cnd.tst _ true :: Cnd.tst _ true :: Cnd.tst _ true :: Cnd.tst _ true :: Cnd.tst _ true :: Cnd.tst _ true :: Cnd.tst _ true :: Cnd.tst _ true :: Cnd.tst _ true :: Cnd.tst _ true :: Cnd.tst _ false :: Cnd.tst _ true :: Cnd.tst _ true :: Cnd.tst _ true :: Cnd.tst _ true :: Cnd.tst _ true :: Cnd.tst _ true :: Cnd.tst _ true :: Cnd.tst _ true :: Cnd.tst _ true :: Cnd.tst _ true :: Cnd.tst _ true :: Cnd.tst _ true :: Cnd.tst _ false :: Cnd.tst _ true :: Cnd.tst _ true :: Cnd.tst _ true :: Cnd.tst _ true :: Cnd.tst _ true :: Cnd.tst _ true :: Cnd.tst _ true :: Cnd.tst _ true :: Cnd.tst _ true :: Cnd.tst _ true :: Cnd.tst _ true :: Cnd.tst _ true :: Cnd.tst _ false :: Cnd.tst _ true :: Cnd.tst _ true :: Cnd.tst _ true :: Cnd.tst _ true :: Cnd.tst _ true :: Cnd.tst _ true :: Cnd.tst _ true :: Cnd.tst _ true :: Cnd.tst _ true :: Cnd.tst _ true :: Cnd.tst _ true :: Cnd.tst _ true :: Cnd.tst _ false :: [])) (by kernel_rfl) ⟨h0, h1, h2, h3, h4, h5, h6, h7, h8, h9, h10, h11, h12, h13, h1, h2, h3, h4, h5, h6, h7, h8, h9, h10, h11, h12, h14, h1, h2, h3, h4, h5, h6, h7, h8, h9, h10, h11, h12, h15, h1, h2, h3, h4, h5, h6, h7, h8, h9, h10, h11, h12, h16, h1, h2, h3, h4, h5, h6, h7, h8, h9, h10, h11, h12, h17, h1, h2, h3, h4, h5, h6, h7, h8, h9, h10, h11, h12, h18, h1, h2, h3, h4, h5, h6, h7, h8, h9, h10, h11, h12, h19, h1, h2, h3, h4, h5, h6, h7, h8, h9, h10, h11, h12, h20, trivial⟩ (by kernel_rfl) hb hu
theorem law_e (a0 : Bool) (l0 : Nat) (cs0 : List AV) (a1 : Bool) (l1 : Nat) (cs1 : List AV) (z : Int) (n : Nat) (i : Nat) (c : Nat) (cs : List AV) (h0 : (iltB (Int.ofNat i) (Int.ofNat n)) = false) (hb : Blk.plainB (Blk.cells true 5 n cs) = true) (hu : AV.plainL [AV.fsl a0 l0 cs0, AV.fsl a1 l1 cs1, AV.int IntKind.i64 z, AV.int IntKind.i64 (Int.ofNat n), AV.int IntKind.i64 (Int.ofNat i)] = true) :
    CodeOK Try.prog (tyCx tys) 94 0 (roundOf (blockOf Try.f7 0)) { fr := frameOf 94 ((6, AV.slice (some (0, 0)) n (some c)) :: [0, 1, 5, 46, 47].zip [AV.fsl a0 l0 cs0, AV.fsl a1 l1 cs1, AV.int IntKind.i64 z, AV.int IntKind.i64 (Int.ofNat n), AV.int IntKind.i64 (Int.ofNat i)]), ds := [], H := mk1 (some (Blk.cells true 5 n cs)) } (AX.exit 0) ⟨frameOf 94 ((6, AV.slice (some (0, 0)) (n) (some c)) :: [0, 1, 5, 46, 47].zip [AV.fsl a0 l0 cs0, AV.fsl a1 l1 cs1, AV.int IntKind.i64 z, AV.int IntKind.i64 (Int.ofNat n), AV.int IntKind.i64 (Int.ofNat i)]), [], mk1 (some (Blk.cells true 5 n cs))⟩ :=
  own_run (g := 30) (k := 7) (f := 30) (kk := 0) (cx_goes _ _) allHe (q := (.z :: [])) (c := (Cnd.tst _ false :: [])) (by kernel_rfl) ⟨h0, trivial⟩ (by kernel_rfl) hb hu
structure LawS where
  a0 : Bool
  l : List UInt8
  a1 : Bool
  m : List UInt8
  z : Int
  n : Nat
  c : Nat
  i : Nat
def LawS.enc (p : LawS) : HSt := (.slice (some (0, 0)) p.n (some p.c), some (.cells true 5 p.n (ofBytes (xorB p.n p.l p.m))), [.fsl p.a0 p.l.length (ofBytes p.l), .fsl p.a1 p.m.length (ofBytes p.m), .int .i64 p.z, .int .i64 (.ofNat p.n), .int .i64 (.ofNat p.i)])
def LawS.fin (p : LawS) : AX × HSt := (.exit 0, .slice (some (0, 0)) p.n (some p.c), some (.cells true 5 p.n (ofBytes (xorB p.n p.l p.m))), [.fsl p.a0 p.l.length (ofBytes p.l), .fsl p.a1 p.m.length (ofBytes p.m), .int .i64 p.z, .int .i64 (.ofNat p.n), .int .i64 (.ofNat p.n)])
theorem plain_law {a0 a1 : Bool} {l m : List UInt8} {x y z : Int} : AV.plainL [.fsl a0 l.length (ofBytes l), .fsl a1 m.length (ofBytes m), .int .i64 x, .int .i64 y, .int .i64 z] = true := by
  simp [AV.plainL, AV.plain, ofBytes_plainL]
def xlawL : HLoop := ⟨94, blockOf Try.f7 0, 6, [0, 1, 5, 46, 47], fun v ob us => match v, ob, us with
  | .slice (some (0, 0)) n (some c), some (.cells true 5 nc cs), [.fsl a0 l0 cs0, .fsl a1 l1 cs1, .int .i64 z, .int .i64 (.ofNat n'), .int .i64 (.ofNat 0)] =>
    some ([Nat.beq n' n, Nat.beq nc n, u8L cs, u8L cs0, u8L cs1, Nat.beq cs0.length l0, Nat.beq cs1.length l1, Nat.ble n l0, Nat.ble n l1, eqXor n cs cs0 cs1, Nat.ble n 1000000000000], .normal, .slice (some (0, 0)) n (some c), some (.cells true 5 n cs), [.fsl a0 l0 cs0, .fsl a1 l1 cs1, .int .i64 z, .int .i64 (.ofNat n), .int .i64 (.ofNat n)])
  | _, _, _ => none⟩
theorem at0_ofBytes (l : List UInt8) (i : Nat) (h : i < l.length) : (listAt (ofBytes l) (0 + (Int.ofNat i).toNat * 1)).getD AV.undef = .int .u8 ((l.getD i 0).toNat : Int) := by
  have e : (0 + (Int.ofNat i).toNat * 1) = i := by show 0 + i * 1 = i; omega
  rw [e, listAt_ofBytes _ i h]
  simp [h]
theorem xlawL_ok : xlawL.OK Try.prog (tyCx tys) 0 := by
  refine HLoop.ok_by (b := roundOf (blockOf Try.f7 0)) (by kernel_rfl) LawS.enc LawS.fin (fun p => p.n ≤ p.l.length ∧ p.n ≤ p.m.length ∧ p.i ≤ p.n ∧ p.n ≤ 1000000000000) (fun p => p.n - p.i) ?_ ?_
  · intro v ob us conds X v' ob' us' h hc hpl hin
    simp only [xlawL] at h
    split at h
    · rename_i n c nc cs a0 l0 cs0 a1 l1 cs1 z n'
      injection h with h; injection h with e1 h; injection h with e2 h; injection h with e3 h; injection h with e4 e5
      subst e1; subst e2; subst e3; subst e4; subst e5
      simp only [allTrue_cons] at hc
      obtain ⟨c1, c2, c3, c4, c5, c6, c7, c8, c9, c10, c11, _⟩ := hc
      have c1 := eq_of_beq' c1
      have c2 := eq_of_beq' c2
      obtain ⟨xs, rfl⟩ := u8L_iff.1 c3
      obtain ⟨l, rfl⟩ := u8L_iff.1 c4
      obtain ⟨m, rfl⟩ := u8L_iff.1 c5
      have c6 := eq_of_beq' c6
      have c7 := eq_of_beq' c7
      rw [ofBytes_length] at c6 c7
      subst c1; subst c2; subst c6; subst c7
      unfold eqXor at c10
      rw [kept_eq, bytesL_ofBytes, bytesL_ofBytes, bytesL_ofBytes, bytesEq_eq] at c10
      have c10 := eq_of_beq c10
      subst c10
      refine ⟨⟨a0, l, a1, m, z, _, c, 0⟩, ⟨Nat.le_of_ble_eq_true c8, Nat.le_of_ble_eq_true c9, Nat.zero_le _, Nat.le_of_ble_eq_true c11⟩, rfl, rfl, rfl, plain_law, ?_⟩
      exact ⟨by simp [Blk.plainB, ofBytes_plainL], rfl⟩
    · cases h
  · rintro ⟨a0, l, a1, m, z, n, c, i⟩ ⟨h1, h2, h5, h6⟩
    simp only at h1 h2 h5 h6
    have hb : Blk.plainB (.cells true 5 n (ofBytes (xorB n l m))) = true := by simp [Blk.plainB, ofBytes_plainL]
    by_cases hi : i < n
    · left
      refine ⟨⟨a0, l, a1, m, z, n, c, i + 1⟩, ⟨h1, h2, hi, h6⟩, rfl, by simp only; omega, ?_⟩
      have ew : wrapA IntKind.i64 ((Int.ofNat i).add (Int.ofNat 1)) = Int.ofNat (i + 1) := i64_add i 1 (by omega)
      have hxl : i < (xorB n l m).length := by rw [xorB_length]; exact hi
      have e1 : (xorB n l m).getD i 0 = l.getD i 0 ^^^ m.getD i 0 := by simp [xorB, hi]
      have bits : ∀ k, _ := fun k => bit_ok (l.getD i 0) (m.getD i 0) k
      have h := law_r a0 l.length (ofBytes l) a1 m.length (ofBytes m) z n i c (ofBytes (xorB n l m)) (by rw [iltB_eq]; exact decide_eq_true (by show (i : Int) < (n : Int); omega)) (ble_of (by show i + 1 ≤ _; omega)) (ble_of (by show 0 + i * 1 + 1 ≤ _; omega)) (ble_of (by rw [ofBytes_length, xorB_length]; show 0 + i * 1 + 1 ≤ _; omega)) (by rw [at0_ofBytes _ i hxl]; rfl) (ble_of (by show i + 1 ≤ _; omega)) (beq_of1 (ofBytes_length l)) (room_ofBytes l i (by omega)) (by rw [at_ofBytes l i (by omega)]; rfl) (ble_of (by show i + 1 ≤ _; omega)) (beq_of1 (ofBytes_length m)) (room_ofBytes m i (by omega)) (by rw [at_ofBytes m i (by omega)]; rfl) (by rw [at0_ofBytes _ i hxl, at_ofBytes l i (by omega), at_ofBytes m i (by omega), e1]; exact bits 0) (by rw [at0_ofBytes _ i hxl, at_ofBytes l i (by omega), at_ofBytes m i (by omega), e1]; exact bits 1) (by rw [at0_ofBytes _ i hxl, at_ofBytes l i (by omega), at_ofBytes m i (by omega), e1]; exact bits 2) (by rw [at0_ofBytes _ i hxl, at_ofBytes l i (by omega), at_ofBytes m i (by omega), e1]; exact bits 3) (by rw [at0_ofBytes _ i hxl, at_ofBytes l i (by omega), at_ofBytes m i (by omega), e1]; exact bits 4) (by rw [at0_ofBytes _ i hxl, at_ofBytes l i (by omega), at_ofBytes m i (by omega), e1]; exact bits 5) (by rw [at0_ofBytes _ i hxl, at_ofBytes l i (by omega), at_ofBytes m i (by omega), e1]; exact bits 6) (by rw [at0_ofBytes _ i hxl, at_ofBytes l i (by omega), at_ofBytes m i (by omega), e1]; exact bits 7) hb plain_law
      rw [ew] at h
      exact h
    · have hi : i = n := by omega
      subst hi
      right
      exact ⟨by simp [LawS.fin], law_e a0 l.length (ofBytes l) a1 m.length (ofBytes m) z i i c (ofBytes (xorB i l m)) (by rw [iltB_eq]; exact decide_eq_false (by show ¬ (i : Int) < (i : Int); omega)) hb plain_law⟩
end Go.Proofs.Ytecncappdnhbaaa
