/- Rows of Xor and of Zero. -/
import Derived.Test.YtecncappdnhbaaaL04b
set_option autoImplicit false
set_option linter.unusedVariables false
set_option linter.unusedSimpArgs false
set_option maxRecDepth 100000
noncomputable section
namespace Go.Proofs.Ytecncappdnhbaaa
open Go.Ab.M Go.Ab Go
abbrev Cx1 := mkCxH tys fns [] [((31, 0), xorL)]
abbrev Sx1 := mkSH tys [] [((31, 0), xorL)]
theorem allx1 : SumAll Try.prog Cx1 := sums_allH (fun _ h => by cases h) (fun p h => by
  have : p = ((31, 0), xorL) := by simpa using h
  subst this; exact xorL_ok)
abbrev C04z := mkCxH tys fns [] [((101, 0), idxZ)]
abbrev S04z := mkSH tys [] [((101, 0), idxZ)]
theorem all04z : SumAll Try.prog C04z := sums_allH (fun _ h => by cases h) (fun p h => by
  have : p = ((101, 0), idxZ) := by simpa using h
  subst this; exact idxZ_ok)
abbrev C04n := mkCxH tys fns [] [((101, 0), idxN)]
abbrev S04n := mkSH tys [] [((101, 0), idxN)]
theorem all04n : SumAll Try.prog C04n := sums_allH (fun _ h => by cases h) (fun p h => by
  have : p = ((101, 0), idxN) := by simpa using h
  subst this; exact idxN_ok)
theorem xor_run (a0 : Bool) (l0 : Nat) (cs0 : List AV) (a1 : Bool) (l1 : Nat) (cs1 : List AV) (h0 : (ileB (Int.ofNat 0) (minI (Int.ofNat l0) (Int.ofNat l1))) = true) (h1 : (ileB (minI (Int.ofNat l0) (Int.ofNat l1)) (minI (Int.ofNat l0) (Int.ofNat l1))) = true) (h2 : (iltB (minI (Int.ofNat l0) (Int.ofNat l1)) (Int.ofNat 9223372036854775808)) = true) (h3 : (ileB (Int.ofNat 1 * minI (Int.ofNat l0) (Int.ofNat l1)) (Int.ofNat 281474976710656)) = true) (h4 : (AV.plainL (reps (minI (Int.ofNat l0) (Int.ofNat l1)).toNat [AV.int IntKind.u8 (Int.ofNat 0)])) = true) (h5 : (AV.plainL [AV.fsl a0 l0 cs0, AV.fsl a1 l1 cs1, AV.int IntKind.i64 (Int.ofNat (minI (Int.ofNat l0) (Int.ofNat l1)).toNat), AV.int IntKind.i64 (Int.ofNat 0)]) = true) (h6 : ((minI (Int.ofNat l0) (Int.ofNat l1)).toNat.beq (minI (Int.ofNat l0) (Int.ofNat l1)).toNat) = true) (h7 : ((reps (minI (Int.ofNat l0) (Int.ofNat l1)).toNat [AV.int IntKind.u8 (Int.ofNat 0)]).length.beq (minI (Int.ofNat l0) (Int.ofNat l1)).toNat) = true) (h8 : (u8L cs0) = true) (h9 : (u8L cs1) = true) (h10 : (cs0.length.beq l0) = true) (h11 : (cs1.length.beq l1) = true) (h12 : ((minI (Int.ofNat l0) (Int.ofNat l1)).toNat.ble l0) = true) (h13 : ((minI (Int.ofNat l0) (Int.ofNat l1)).toNat.ble l1) = true) (h14 : ((minI (Int.ofNat l0) (Int.ofNat l1)).toNat.ble 1000000000000) = true) :
    ∃ h', aCall Cx1 60 (Tgt.fn 31) [AV.fsl a0 l0 cs0, AV.fsl a1 l1 cs1] H0 = some (AV.slice (some (1, 0)) (minI (Int.ofNat l0) (Int.ofNat l1)).toNat (some (minI (Int.ofNat l0) (Int.ofNat l1)).toNat), h') ∧ [0, 1].map h'.get = [Blk.dead, Blk.cells true 5 (minI (Int.ofNat l0) (Int.ofNat l1)).toNat (kept (ofBytes (xorB (minI (Int.ofNat l0) (Int.ofNat l1)).toNat (bytesL cs0) (bytesL cs1))))] :=
  call_runH (q := (.y :: (.y :: (.y :: (.y :: (oc 1 (.y :: (.y :: (.y :: (.y :: (.y :: (.y :: (.y :: (.y :: (.y :: (.y :: (.y :: (.y :: [])))))))))))))))))) (c := (Cnd.tst _ true :: Cnd.tst _ true :: Cnd.tst _ true :: Cnd.tst _ true :: Cnd.code ((31, 0), xorL).snd.lsumS.fst ((31, 0), xorL).snd.lsumS.fst :: Cnd.tst _ true :: Cnd.tst _ true :: Cnd.tst _ true :: Cnd.tst _ true :: Cnd.tst _ true :: Cnd.tst _ true :: Cnd.tst _ true :: Cnd.tst _ true :: Cnd.tst _ true :: Cnd.tst _ true :: Cnd.tst _ true :: Cnd.tst _ true :: [])) (by kernel_rfl) ⟨h0, h1, h2, h3, rfl, h4, h5, h6, h7, h7, h8, h9, h10, h11, h12, h13, h14, trivial⟩
theorem zero_Z (nl : Bool) (len : Nat) (cs : List AV) (h0 : (AV.plainL [AV.fsl nl len cs, AV.func 83 [] [], AV.int IntKind.i64 (Int.ofNat 0), AV.int IntKind.i64 (Int.ofNat len)]) = true) (h1 : (u8L cs) = true) (h2 : (cs.length.beq len) = true) (h3 : (len.beq len) = true) (h4 : (zeroL cs) = true) (h5 : (len.ble 1000000000000) = true) :
    ∃ h', aCall C04z 60 (Tgt.fn 32) [AV.fsl nl len cs] H0 = some (AV.bool true, h') ∧ [].map h'.get = [] :=
  call_runH (q := (.y :: (.y :: (.y :: (.y :: (.y :: (.y :: []))))))) (c := (Cnd.code ((101, 0), idxZ).snd.lsumS.fst ((101, 0), idxZ).snd.lsumS.fst :: Cnd.tst _ true :: Cnd.tst _ true :: Cnd.tst _ true :: Cnd.tst _ true :: Cnd.tst _ true :: Cnd.tst _ true :: [])) (by kernel_rfl) ⟨rfl, h0, h1, h2, h3, h4, h5, trivial⟩
theorem zero_N (nl : Bool) (len : Nat) (cs : List AV) (h0 : (AV.plainL [AV.fsl nl len cs, AV.func 83 [] [], AV.int IntKind.i64 (Int.ofNat 0), AV.int IntKind.i64 (Int.ofNat len)]) = true) (h1 : (u8L cs) = true) (h2 : (cs.length.beq len) = true) (h3 : (len.beq len) = true) (h4 : (!zeroL cs) = true) (h5 : (len.ble 1000000000000) = true) :
    ∃ h', aCall C04n 60 (Tgt.fn 32) [AV.fsl nl len cs] H0 = some (AV.bool !ileB (Int.ofNat 0) (Int.ofNat (firstNZ cs)), h') ∧ [].map h'.get = [] :=
  call_runH (q := (.y :: (.y :: (.y :: (.y :: (.y :: (.y :: []))))))) (c := (Cnd.code ((101, 0), idxN).snd.lsumS.fst ((101, 0), idxN).snd.lsumS.fst :: Cnd.tst _ true :: Cnd.tst _ true :: Cnd.tst _ true :: Cnd.tst _ true :: Cnd.tst _ true :: Cnd.tst _ true :: [])) (by kernel_rfl) ⟨rfl, h0, h1, h2, h3, h4, h5, trivial⟩
theorem zeroR_Z (nl : Bool) (l : List UInt8) (hb : l.length ≤ 1000000000000) (hz : zeroL (ofBytes l) = true) : ∃ h', aCall C04z 60 (.fn 32) [.fsl nl l.length (ofBytes l)] H0 = some (.bool true, h') := by
  obtain ⟨h', h, _⟩ := zero_Z nl l.length (ofBytes l) plain_idx (u8L_ofBytes l) (beq_of (ofBytes_length l)) (beq_of rfl) hz (ble_of hb)
  exact ⟨h', h⟩
theorem zeroR_N (nl : Bool) (l : List UInt8) (hb : l.length ≤ 1000000000000) (hz : zeroL (ofBytes l) = false) : ∃ h', aCall C04n 60 (.fn 32) [.fsl nl l.length (ofBytes l)] H0 = some (.bool false, h') := by
  obtain ⟨h', h, _⟩ := zero_N nl l.length (ofBytes l) plain_idx (u8L_ofBytes l) (beq_of (ofBytes_length l)) (beq_of rfl) (by rw [hz]; rfl) (ble_of hb)
  have e : ileB (Int.ofNat 0) (Int.ofNat (firstNZ (ofBytes l))) = true := by
    rw [ileB_eq]; exact decide_eq_true (by show ((0 : Nat) : Int) ≤ ((firstNZ (ofBytes l) : Nat) : Int); omega)
  rw [e] at h
  exact ⟨h', h⟩
theorem sound_split {P : Program} {ty : TypeId → Option ATy} {g : FuncId} {s s1 s2 : RSum} (h1 : RSum.Sound P ty g s1) (h2 : RSum.Sound P ty g s2) (n1 : s1.nf = s.nf) (n2 : s2.nf = s.nf)
    (h : ∀ us c q, s.m us = some (c, q) → allTrue c = true → (∃ c', s1.m us = some (c', q) ∧ allTrue c' = true) ∨ (∃ c', s2.m us = some (c', q) ∧ allTrue c' = true)) : RSum.Sound P ty g s := by
  intro base w0 g' args H H' v μ w xs hsum hw hr r n
  have one : ∀ s' : RSum, ftFind [(g, s')] g' = cb (Nat.beq g' g) (some s') none := fun s' => rfl
  replace hsum : ftSum ty [(g, s)] g' args H = some (v, H') := hsum
  unfold ftSum at hsum
  rw [one] at hsum
  cases hg : Nat.beq g' g with
  | false => rw [hg] at hsum; cases hsum
  | true =>
  rw [hg, cb_true, ob_some] at hsum
  replace hsum := ob_eq hsum; obtain ⟨⟨c1, us⟩, hv, hsum⟩ := hsum
  replace hsum := ob_eq hsum; obtain ⟨⟨c2, q⟩, hm, hsum⟩ := hsum
  simp only at hsum hm
  cases hc : allTrue (c1 ++ c2) with
  | false => rw [hc] at hsum; cases hsum
  | true =>
  rw [hc, cb_true] at hsum
  rw [allTrue_append] at hc
  have go : ∀ s' : RSum, s'.nf = s.nf → (∃ c', s'.m us = some (c', q) ∧ allTrue c' = true) → ftSum ty [(g, s')] g' args H = some (v, H') := by
    intro s' hn ⟨c', hm', hc'⟩
    unfold ftSum
    rw [one, hg, cb_true, ob_some, hn, hv, ob_some]
    simp only
    rw [hm', ob_some]
    simp only
    have : allTrue (c1 ++ c') = true := allTrue_append.2 ⟨hc.1, hc'⟩
    rw [this, cb_true]
    exact hsum
  rcases h us c2 q hm hc.2 with k | k
  · exact h1 base w0 (go s1 n1 k) hw hr r n
  · exact h2 base w0 (go s2 n2 k) hw hr r n
def zeroRZ : RSum := RSum.pl true fun us => match us with
  | [.fsl nl len cs] => some ([u8L cs, Nat.beq cs.length len, Nat.ble len 1000000000000, zeroL cs], .bool true)
  | _ => none
def zeroRN : RSum := RSum.pl true fun us => match us with
  | [.fsl nl len cs] => some ([u8L cs, Nat.beq cs.length len, Nat.ble len 1000000000000, !zeroL cs], .bool false)
  | _ => none
theorem zeroRZ_ok : RSum.Sound Try.prog tys 32 zeroRZ := by
  refine RSum.soundH (cx_goes _ _) all04z (RSum.pl_ok fun us c v hm hc => ?_)
  split at hm
  · injection hm with hm; injection hm with e1 e2; subst e1; subst e2
    simp only [allTrue_cons] at hc
    obtain ⟨c1, c2, c3, c4, _⟩ := hc
    obtain ⟨l, rfl⟩ := u8L_iff.1 c1
    have c2 := eq_of_beq' c2
    rw [ofBytes_length] at c2
    subst c2
    exact ⟨rfl, 60, zeroR_Z _ l (Nat.le_of_ble_eq_true c3) c4⟩
  · cases hm
theorem zeroRN_ok : RSum.Sound Try.prog tys 32 zeroRN := by
  refine RSum.soundH (cx_goes _ _) all04n (RSum.pl_ok fun us c v hm hc => ?_)
  split at hm
  · injection hm with hm; injection hm with e1 e2; subst e1; subst e2
    simp only [allTrue_cons] at hc
    obtain ⟨c1, c2, c3, c4, _⟩ := hc
    obtain ⟨l, rfl⟩ := u8L_iff.1 c1
    have c2 := eq_of_beq' c2
    rw [ofBytes_length] at c2
    subst c2
    exact ⟨rfl, 60, zeroR_N _ l (Nat.le_of_ble_eq_true c3) (by simpa using c4)⟩
  · cases hm
def zeroR : RSum := RSum.pl true fun us => match us with
  | [.fsl nl len cs] => some ([u8L cs, Nat.beq cs.length len, Nat.ble len 1000000000000], .bool (zeroL cs))
  | _ => none
theorem zeroR_ok : RSum.Sound Try.prog tys 32 zeroR := by
  refine sound_split zeroRZ_ok zeroRN_ok rfl rfl fun us c q hm hc => ?_
  simp only [zeroR, zeroRZ, zeroRN, RSum.pl] at hm ⊢
  split at hm
  · rename_i nl len cs
    simp only [ob_some] at hm ⊢
    injection hm with hm; injection hm with e1 e2; subst e1; subst e2
    simp only [allTrue_cons] at hc
    obtain ⟨c1, c2, c3, _⟩ := hc
    cases hz : zeroL cs with
    | true => exact .inl ⟨_, rfl, by simp [allTrue_cons, c1, c2, c3, hz]; rfl⟩
    | false => exact .inr ⟨_, rfl, by simp [allTrue_cons, c1, c2, c3, hz]; rfl⟩
  · cases hm
theorem minI_nat (a b : Nat) : minI (Int.ofNat a) (Int.ofNat b) = Int.ofNat (min a b) := by
  show (if (Int.ofNat b) < (Int.ofNat a) then _ else _) = _
  split
  · rename_i h
    have h : (b : Int) < (a : Int) := h
    have : min a b = b := by omega
    rw [this]
  · rename_i h
    have h : ¬ (b : Int) < (a : Int) := h
    have : min a b = a := by omega
    rw [this]
theorem reps_length (n : Nat) (v : AV) : (reps n [v]).length = n := by
  induction n with
  | zero => rfl
  | succ n ih => show ([v] ++ reps n [v]).length = _; rw [List.length_append, ih]; simp; omega
theorem reps_plain (n : Nat) (v : AV) (h : v.plain = true) : AV.plainL (reps n [v]) = true := by
  induction n with
  | zero => rfl
  | succ n ih => show AV.plainL ([v] ++ reps n [v]) = true; exact plainL_append (by simp [AV.plainL, h]) ih
def xorR : RSum := RSum.nb true fun us => match us with
  | [.fsl a0 l0 cs0, .fsl a1 l1 cs1] => some ([u8L cs0, Nat.beq cs0.length l0, u8L cs1, Nat.beq cs1.length l1, Nat.ble l0 1000, Nat.ble l1 1000],
    fun n => .slice (some (n, 0)) (minI (Int.ofNat l0) (Int.ofNat l1)).toNat (some (minI (Int.ofNat l0) (Int.ofNat l1)).toNat),
    [.cells true 5 (minI (Int.ofNat l0) (Int.ofNat l1)).toNat (kept (ofBytes (xorB (minI (Int.ofNat l0) (Int.ofNat l1)).toNat (bytesL cs0) (bytesL cs1))))])
  | _ => none
theorem xorR_ok : RSum.Sound Try.prog tys 31 xorR := by
  refine RSum.soundH (cx_goes _ _) allx1 (RSum.nb_ok fun us c v bs hm hc => ?_)
  split at hm
  · rename_i a0 l0 cs0 a1 l1 cs1
    injection hm with hm; injection hm with e1 hm; injection hm with e2 e3; subst e1; subst e2; subst e3
    simp only [allTrue_cons] at hc
    obtain ⟨c1, c2, c3, c4, c5, c6, _⟩ := hc
    obtain ⟨l, rfl⟩ := u8L_iff.1 c1
    obtain ⟨m, rfl⟩ := u8L_iff.1 c3
    have c2 := eq_of_beq' c2
    have c4 := eq_of_beq' c4
    rw [ofBytes_length] at c2 c4
    subst c2; subst c4
    have c5 : l.length ≤ 1000 := Nat.le_of_ble_eq_true c5
    have c6 : m.length ≤ 1000 := Nat.le_of_ble_eq_true c6
    have hmin := minI_nat l.length m.length
    have ht : (minI (Int.ofNat l.length) (Int.ofNat m.length)).toNat = min l.length m.length := by rw [hmin]; rfl
    refine ⟨fun b hb => ?_, ?_⟩
    · rw [kept_eq] at hb
      have : b = .cells true 5 (minI (Int.ofNat l.length) (Int.ofNat m.length)).toNat (ofBytes (xorB (minI (Int.ofNat l.length) (Int.ofNat m.length)).toNat (bytesL (ofBytes l)) (bytesL (ofBytes m)))) := by simpa using hb
      subst this
      simp only [Blk.plainOwn, ofBytes_plain, Bool.and_self]
    · have le1 : min l.length m.length ≤ l.length := Nat.min_le_left _ _
      have le2 : min l.length m.length ≤ m.length := Nat.min_le_right _ _
      obtain ⟨h', h, hb⟩ := xor_run a0 l.length (ofBytes l) a1 m.length (ofBytes m)
        (by rw [hmin, ileB_eq]; exact decide_eq_true (by show ((0 : Nat) : Int) ≤ ((min l.length m.length : Nat) : Int); omega))
        (by rw [ileB_eq]; exact decide_eq_true (Int.le_refl _))
        (by rw [hmin, iltB_eq]; exact decide_eq_true (by show ((min l.length m.length : Nat) : Int) < ((9223372036854775808 : Nat) : Int); omega))
        (by rw [hmin, ileB_eq]; exact decide_eq_true (by show ((1 : Nat) : Int) * ((min l.length m.length : Nat) : Int) ≤ ((281474976710656 : Nat) : Int); omega))
        (reps_plain _ _ rfl) plain_fsls (beq_of rfl) (beq_of (reps_length _ _)) (u8L_ofBytes l) (u8L_ofBytes m) (beq_of (ofBytes_length l)) (beq_of (ofBytes_length m))
        (ble_of (by rw [ht]; exact le1)) (ble_of (by rw [ht]; exact le2)) (ble_of (by rw [ht]; omega))
      refine ⟨60, h', [1], _, h, ?_, sel_one 1, rfl, fun n ρ hρ => ?_⟩
      · have hb : [h'.get 0, h'.get 1] = [_, _] := hb
        injection hb with _ hb
      · have := hρ 0 1 rfl
        simp only [AV.ren, Option.map_some, this, Nat.add_zero]
        exact AV.Le.refl _
  · cases hm
abbrev F04 : FTab := [(31, xorR), (32, zeroR)] ++ F01
abbrev H04 : HTab := [((7, 0), xlawL)]
abbrev C04 := mkCxH tys fns F04 H04
abbrev S04 := mkSH tys F04 H04
theorem all04 : SumAll Try.prog C04 := sums_allH (fun p h => by
  rcases List.mem_append.1 h with h | h
  · simp only [List.mem_cons, List.not_mem_nil, or_false] at h
    rcases h with rfl | rfl
    · exact xorR_ok
    · exact zeroR_ok
  · exact f01_ok p h) (fun p h => by
  have : p = ((7, 0), xlawL) := by simpa using h
  subst this; exact xlawL_ok)
end Go.Proofs.Ytecncappdnhbaaa
