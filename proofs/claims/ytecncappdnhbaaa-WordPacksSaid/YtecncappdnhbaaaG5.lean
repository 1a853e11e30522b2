/- Texts of the abstract machine and of the laws, merged. -/
import Derived.Test.YtecncappdnhbaaaG4
/- WordPacks: is a bit behind so many one? its loop, where one is. -/
section
set_option autoImplicit false
set_option linter.unusedVariables false
set_option linter.unusedSimpArgs false
set_option maxRecDepth 100000
noncomputable section
namespace Go.Ab
open M
theorem bit_and (x k : Nat) (hx : x < 256) (hk : k < 8) : (!ieqB (andN IntKind.u8 (x : Int) (shrN (Int.ofNat 128) (shN IntKind.u8 k))) (Int.ofNat 0)) = x.testBit (7 - k) := by
  have ek : ∀ k, k < 8 → shN IntKind.u8 k = k := by decide
  have e2 : ∀ k, k < 8 → shrN (Int.ofNat 128) k = ((2 ^ (7 - k) : Nat) : Int) := by decide
  have e3 : ∀ k, k < 8 → 2 ^ (7 - k) < 256 := by decide
  have e4 : ∀ x, x < 256 → ∀ k, k < 8 → ((((x &&& 2 ^ (7 - k) : Nat) : Int)) == Int.ofNat 0) = !x.testBit (7 - k) := by decide +kernel
  rw [ek k hk, e2 k hk, andN_nat .u8 x _ hx (e3 k hk), ieqB_eq, e4 x hx k hk, Bool.not_not]
theorem bit_at (b : List UInt8) (i : Nat) (hi : i / 8 < b.length) (hb : i < 4611686018427387904) : (!ieqB (andN IntKind.u8 ((listAt (List.drop ((wrapA IntKind.i64 ((Int.ofNat i).tdiv (Int.ofNat 8))).toNat * 1) (ofBytes b)) 0).getD AV.undef).intOf (shrN (Int.ofNat 128) (shN IntKind.u8 ((Int.ofNat i).tmod (Int.ofNat 8)).toNat))) (Int.ofNat 0)) = bitAt b i := by
  have ed : wrapA IntKind.i64 ((Int.ofNat i).tdiv (Int.ofNat 8)) = ((i / 8 : Nat) : Int) := wrapA_nat .i64 (i / 8) (by show _ < 9223372036854775808; omega)
  have e : (listAt (List.drop ((i / 8) * 1) (ofBytes b)) 0).getD AV.undef = .int .u8 ((b.getD (i / 8) 0).toNat : Int) := at_ofBytes b (i / 8) hi
  have em : ((Int.ofNat i).tmod (Int.ofNat 8)).toNat = i % 8 := rfl
  have en : ((i / 8 : Nat) : Int).toNat = i / 8 := rfl
  rw [ed, en, e, em]
  simp only [AV.intOf]
  exact bit_and _ _ (UInt8.toNat_lt _) (by omega)
end Go.Ab
namespace Go.Proofs.Ytecncappdnhbaaa
open Go.Ab.M Go.Ab Go
theorem loose_r (a0 : Bool) (l0 : Nat) (cs0 : List AV) (n : Int) (i : Nat) (h0 : (iltB (Int.ofNat i) (wrapA IntKind.i64 ((Int.ofNat 8).mul (Int.ofNat l0)))) = true) (h1 : (ileB (Int.ofNat 0) (wrapA IntKind.i64 ((Int.ofNat i).tdiv (Int.ofNat 8)))) = true) (h2 : ((wrapA IntKind.i64 ((Int.ofNat i).tdiv (Int.ofNat 8))).toNat.succ.ble l0) = true) (h3 : (cs0.length.beq (l0.mul 1)) = true) (h4 : (Nat.ble 1 (List.drop ((wrapA IntKind.i64 ((Int.ofNat i).tdiv (Int.ofNat 8))).toNat * 1) cs0).length) = true) (h5 : (AV.isInt IntKind.u8 ((listAt (List.drop ((wrapA IntKind.i64 ((Int.ofNat i).tdiv (Int.ofNat 8))).toNat * 1) cs0) 0).getD AV.undef)) = true) (h6 : (!ieqB (andN IntKind.u8 ((listAt (List.drop ((wrapA IntKind.i64 ((Int.ofNat i).tdiv (Int.ofNat 8))).toNat * 1) cs0) 0).getD AV.undef).intOf (shrN (Int.ofNat 128) (shN IntKind.u8 ((Int.ofNat i).tmod (Int.ofNat 8)).toNat))) (Int.ofNat 0)) = false) (hb : List.all [] Blk.plainB = true) (hu : List.all [AV.fsl a0 l0 cs0, AV.int IntKind.i64 n, AV.bool false, AV.int IntKind.i64 (wrapA IntKind.i64 ((Int.ofNat i).add (Int.ofNat 1)))] (okS []) = true) :
    CodeOK Try.prog (tyCx tys) 24 0 (roundOf (blockOf Try.f35 0)) { fr := frameOf 24 ([0, 1, 4, 5].zip [AV.fsl a0 l0 cs0, AV.int IntKind.i64 n, AV.bool false, AV.int IntKind.i64 (Int.ofNat i)]), ds := [], H := mkL [] } (AX.normal) ⟨frameOf 24 ([0, 1, 4, 5].zip [AV.fsl a0 l0 cs0, AV.int IntKind.i64 n, AV.bool false, AV.int IntKind.i64 (wrapA IntKind.i64 ((Int.ofNat i).add (Int.ofNat 1)))]), [], mkL []⟩ :=
  rows_run (g := 30) (k := 35) (f := 30) (sl := [0, 1, 4, 5]) (ks := []) (us := [AV.fsl a0 l0 cs0, AV.int IntKind.i64 n, AV.bool false, AV.int IntKind.i64 (wrapA IntKind.i64 ((Int.ofNat i).add (Int.ofNat 1)))]) (cx_goes _ _) allMe (q := (.y :: (oc 1 (.y :: (.y :: (.y :: (.y :: (.y :: (oc 2 (.z :: [])))))))))) (c := (Cnd.tst _ true :: Cnd.tst _ true :: Cnd.tst _ true :: Cnd.tst _ true :: Cnd.tst _ true :: Cnd.tst _ true :: Cnd.tst _ false :: [])) (by kernel_rfl) ⟨h0, h1, h2, h3, h4, h5, h6, trivial⟩ (by kernel_rfl) (by kernel_rfl) rfl hb hu
theorem loose_h (a0 : Bool) (l0 : Nat) (cs0 : List AV) (n : Int) (i : Nat) (h0 : (iltB (Int.ofNat i) (wrapA IntKind.i64 ((Int.ofNat 8).mul (Int.ofNat l0)))) = true) (h1 : (ileB (Int.ofNat 0) (wrapA IntKind.i64 ((Int.ofNat i).tdiv (Int.ofNat 8)))) = true) (h2 : ((wrapA IntKind.i64 ((Int.ofNat i).tdiv (Int.ofNat 8))).toNat.succ.ble l0) = true) (h3 : (cs0.length.beq (l0.mul 1)) = true) (h4 : (Nat.ble 1 (List.drop ((wrapA IntKind.i64 ((Int.ofNat i).tdiv (Int.ofNat 8))).toNat * 1) cs0).length) = true) (h5 : (AV.isInt IntKind.u8 ((listAt (List.drop ((wrapA IntKind.i64 ((Int.ofNat i).tdiv (Int.ofNat 8))).toNat * 1) cs0) 0).getD AV.undef)) = true) (h6 : (!ieqB (andN IntKind.u8 ((listAt (List.drop ((wrapA IntKind.i64 ((Int.ofNat i).tdiv (Int.ofNat 8))).toNat * 1) cs0) 0).getD AV.undef).intOf (shrN (Int.ofNat 128) (shN IntKind.u8 ((Int.ofNat i).tmod (Int.ofNat 8)).toNat))) (Int.ofNat 0)) = true) (hb : List.all [] Blk.plainB = true) (hu : List.all [AV.fsl a0 l0 cs0, AV.int IntKind.i64 n, AV.bool true, AV.int IntKind.i64 (Int.ofNat i)] (okS []) = true) :
    CodeOK Try.prog (tyCx tys) 24 0 (roundOf (blockOf Try.f35 0)) { fr := frameOf 24 ([0, 1, 4, 5].zip [AV.fsl a0 l0 cs0, AV.int IntKind.i64 n, AV.bool false, AV.int IntKind.i64 (Int.ofNat i)]), ds := [], H := mkL [] } (AX.ret) ⟨frameOf 24 ([0, 1, 4, 5].zip [AV.fsl a0 l0 cs0, AV.int IntKind.i64 n, AV.bool true, AV.int IntKind.i64 (Int.ofNat i)]), [], mkL []⟩ :=
  rows_run (g := 30) (k := 35) (f := 30) (sl := [0, 1, 4, 5]) (ks := []) (us := [AV.fsl a0 l0 cs0, AV.int IntKind.i64 n, AV.bool true, AV.int IntKind.i64 (Int.ofNat i)]) (cx_goes _ _) allMe (q := (.y :: (oc 1 (.y :: (.y :: (.y :: (.y :: (.y :: (oc 2 (.y :: [])))))))))) (c := (Cnd.tst _ true :: Cnd.tst _ true :: Cnd.tst _ true :: Cnd.tst _ true :: Cnd.tst _ true :: Cnd.tst _ true :: Cnd.tst _ true :: [])) (by kernel_rfl) ⟨h0, h1, h2, h3, h4, h5, h6, trivial⟩ (by kernel_rfl) (by kernel_rfl) rfl hb hu
structure LoS where
  a0 : Bool
  b : List UInt8
  n : Nat
  i : Nat
def LoS.enc (p : LoS) : MSt := ([.fsl p.a0 p.b.length (ofBytes p.b), .int .i64 (.ofNat p.n), .bool false, .int .i64 (.ofNat p.i)], [])
def LoS.fin (p : LoS) : AX × MSt := (.ret, [.fsl p.a0 p.b.length (ofBytes p.b), .int .i64 (.ofNat p.n), .bool true, .int .i64 (.ofNat (firstB p.b p.n))], [])
def looL : MLoop := ⟨24, blockOf Try.f35 0, [0, 1, 4, 5], fun vs bs => match vs, bs with
  | [.fsl a0 l0 cs0, .int .i64 (.ofNat n), .bool false, .int .i64 (.ofNat i)], [] =>
    some ([u8L cs0, Nat.beq cs0.length l0, Nat.ble l0 1000, Nat.beq i n, kept (!tightB (bytesL cs0) n)], .ret, [.fsl a0 l0 cs0, .int .i64 (.ofNat n), .bool true, .int .i64 (.ofNat (kept (firstB (bytesL cs0) n)))], [])
  | _, _ => none⟩
theorem looL_ok : looL.OK Try.prog (tyCx tys) 0 := by
  refine MLoop.ok_by (b := roundOf (blockOf Try.f35 0)) (by kernel_rfl) LoS.enc LoS.fin (fun p => p.b.length ≤ 1000 ∧ tightB p.b p.n = false ∧ p.n ≤ p.i ∧ p.i ≤ firstB p.b p.n) (fun p => 8 * p.b.length - p.i) ?_ ?_
  · intro vs bs conds X vs' bs' h hc hin
    simp only [looL] at h
    split at h
    · rename_i a0 l0 cs0 n i
      injection h with h; injection h with e1 h; injection h with e2 h; injection h with e3 e4
      rw [kept_eq] at e3
      subst e1; subst e2; subst e3; subst e4
      simp only [allTrue_cons] at hc
      obtain ⟨c1, c2, c3, c4, c5, _⟩ := hc
      obtain ⟨b, rfl⟩ := u8L_iff.1 c1
      have c2 := eq_of_beq' c2
      have c4 := eq_of_beq' c4
      rw [ofBytes_length] at c2
      subst c2; subst c4
      rw [kept_eq, bytesL_ofBytes] at c5
      have c5 : tightB b i = false := by simpa using c5
      rw [bytesL_ofBytes]
      refine ⟨⟨a0, b, i, i⟩, ⟨Nat.le_of_ble_eq_true c3, c5, Nat.le_refl _, (firstB_at b i c5).2.1⟩, rfl, rfl, rfl, fun u hu => ?_, fun k hk => (by cases hk)⟩
      simp only [List.mem_cons, List.not_mem_nil, or_false] at hu
      rcases hu with rfl | rfl | rfl | rfl
      · exact ofBytes_plainL b
      · rfl
      · rfl
      · rfl
    · cases h
  · rintro ⟨a0, b, n, i⟩ ⟨h4, h5, h1, h6⟩
    simp only at h1 h4 h5 h6
    obtain ⟨z1, z2, z3, z4⟩ := firstB_at b n h5
    have ew : wrapA IntKind.i64 ((Int.ofNat i).add (Int.ofNat 1)) = Int.ofNat (i + 1) := i64_add i 1 (by omega)
    have m8 := mul8 b.length h4
    have hi : i < 8 * b.length := by omega
    have h8 : i / 8 < b.length := by omega
    have ed : wrapA IntKind.i64 ((Int.ofNat i).tdiv (Int.ofNat 8)) = ((i / 8 : Nat) : Int) := wrapA_nat .i64 (i / 8) (by show _ < 9223372036854775808; omega)
    have edn : (wrapA IntKind.i64 ((Int.ofNat i).tdiv (Int.ofNat 8))).toNat = i / 8 := by rw [ed]; rfl
    have lt : iltB (Int.ofNat i) (wrapA IntKind.i64 ((Int.ofNat 8).mul (Int.ofNat b.length))) = true := by rw [m8, iltB_eq]; exact decide_eq_true (by show (i : Int) < ((8 * b.length : Nat) : Int); omega)
    have q0 : ileB (Int.ofNat 0) (wrapA IntKind.i64 ((Int.ofNat i).tdiv (Int.ofNat 8))) = true := by rw [ed, ileB_eq]; exact decide_eq_true (by show ((0 : Nat) : Int) ≤ _; omega)
    have q1 : Nat.ble (wrapA IntKind.i64 ((Int.ofNat i).tdiv (Int.ofNat 8))).toNat.succ b.length = true := ble_of (by rw [edn]; omega)
    have q2 := beq_of1 (ofBytes_length b)
    have q3 : Nat.ble 1 (List.drop ((wrapA IntKind.i64 ((Int.ofNat i).tdiv (Int.ofNat 8))).toNat * 1) (ofBytes b)).length = true := by rw [edn]; exact room_ofBytes b (i / 8) h8
    have q4 : AV.isInt IntKind.u8 ((listAt (List.drop ((wrapA IntKind.i64 ((Int.ofNat i).tdiv (Int.ofNat 8))).toNat * 1) (ofBytes b)) 0).getD AV.undef) = true := by
      have e : (listAt (List.drop (i / 8 * 1) (ofBytes b)) 0).getD AV.undef = .int .u8 ((b.getD (i / 8) 0).toNat : Int) := at_ofBytes b (i / 8) h8
      rw [edn, e]; rfl
    have qb := bit_at b i h8 (by omega)
    have hu : ∀ (x : Bool) (y z : Int), List.all [AV.fsl a0 b.length (ofBytes b), AV.int IntKind.i64 y, AV.bool x, AV.int IntKind.i64 z] (okS []) = true := by
      intro x y z
      simp [okS, AV.plain, ofBytes_plainL, memB]
    by_cases hi' : i < firstB b n
    · left
      have hbit : bitAt b i = false := z4 i hi' (by omega)
      refine ⟨⟨a0, b, n, i + 1⟩, ⟨h4, h5, by show n ≤ i + 1; omega, hi'⟩, rfl, by simp only; omega, ?_⟩
      have h := loose_r a0 b.length (ofBytes b) (Int.ofNat n) i lt q0 q1 q2 q3 q4 (by rw [qb]; exact hbit) rfl (hu _ _ _)
      rw [ew] at h
      exact h
    · right
      refine ⟨by simp [LoS.fin], ?_⟩
      have hie : firstB b n = i := by omega
      have h := loose_h a0 b.length (ofBytes b) (Int.ofNat n) i lt q0 q1 q2 q3 q4 (by rw [qb, ← hie]; exact z3) rfl (hu _ _ _)
      have f2 : (LoS.fin ⟨a0, b, n, i⟩).2 = ([.fsl a0 b.length (ofBytes b), .int .i64 (.ofNat n), .bool true, .int .i64 (.ofNat i)], []) := by
        simp only [LoS.fin, hie]
      rw [f2]
      exact h
end Go.Proofs.Ytecncappdnhbaaa
end
end

/- WordPacks: packed bits, unpacked; unpacked bytes, packed: plain laws. -/
section
set_option autoImplicit false
set_option linter.unusedVariables false
set_option linter.unusedSimpArgs false
set_option maxRecDepth 100000
noncomputable section
namespace Go.Ab
open M
theorem bitAt_packB (m i : Nat) (l : List Bool) (hm : i / 8 < m) : bitAt (packB m l) i = l.getD i false := by
  rw [← bit_back m i l hm, bit_and _ _ (UInt8.toNat_lt _) (by omega)]
  rfl
theorem unB_packB (m : Nat) (l : List Bool) (h : l.length ≤ 8 * m) : unB (packB m l) l.length = l := by
  apply List.ext_getElem (by rw [unB_length])
  intro i h1 h2
  have e : (unB (packB m l) l.length)[i] = bitAt (packB m l) i := by simp [unB]
  rw [e, bitAt_packB m i l (by omega), List.getD_eq_getElem?_getD, List.getElem?_eq_getElem h2]; rfl
theorem tightB_packB (m : Nat) (l : List Bool) : tightB (packB m l) l.length = true := by
  unfold tightB
  rw [List.all_eq_true]
  intro i hi
  rw [List.mem_range, packB_length] at hi
  by_cases h : i < l.length
  · simp [h]
  · rw [bitAt_packB m i l (by omega), List.getD_eq_getElem?_getD, List.getElem?_eq_none (by omega)]
    simp
theorem pk8_bits : ∀ x, x < 256 → pk8 (fun k => x.testBit (7 - k)) = x := by decide +kernel
theorem packB_unB (b : List UInt8) (n : Nat) (h : tightB b n = true) : packB b.length (unB b n) = b := by
  apply List.ext_getElem (by rw [packB_length])
  intro j h1 h2
  have e : (packB b.length (unB b n))[j] = UInt8.ofNat (pk8 fun k => (unB b n).getD (8 * j + k) false) := by simp [packB]
  rw [e]
  have hb : ∀ k, k < 8 → (unB b n).getD (8 * j + k) false = b[j].toNat.testBit (7 - k) := by
    intro k hk
    have e1 : bitAt b (8 * j + k) = b[j].toNat.testBit (7 - k) := by
      unfold bitAt
      rw [show (8 * j + k) / 8 = j by omega, show (8 * j + k) % 8 = k by omega, List.getD_eq_getElem?_getD, List.getElem?_eq_getElem h2]; rfl
    by_cases hn : 8 * j + k < n
    · rw [← e1, List.getD_eq_getElem?_getD, List.getElem?_eq_getElem (by rw [unB_length]; exact hn)]
      simp [unB]
    · rw [List.getD_eq_getElem?_getD, List.getElem?_eq_none (by rw [unB_length]; omega), ← e1]
      unfold tightB at h
      rw [List.all_eq_true] at h
      have := h (8 * j + k) (List.mem_range.2 (by omega))
      simp [hn] at this
      rw [this]; rfl
  rw [pk8_congr hb, pk8_bits _ (UInt8.toNat_lt _)]
  simp
end Go.Ab
end
end

/- Functions of which more than one thing is known: which of them counts, tests of the arguments tell. -/
section
set_option autoImplicit false
set_option linter.unusedVariables false
set_option linter.unusedSimpArgs false
set_option linter.unusedSectionVars false
noncomputable section
namespace Go.Ab
open Go.RowKit

abbrev RowM := List AV → Option (List Bool × (Nat → AV × List Blk))
inductive RTree where
  | leaf (m : RowM)
  | node (t : List AV → Bool) (l r : RTree)
def RTree.m (t : RTree) (us : List AV) : Option (List Bool × (Nat → AV × List Blk)) :=
  RTree.rec (motive := fun _ => Option (List Bool × (Nat → AV × List Blk))) (fun m => m us) (fun c _ _ l r => cb (c us) l r) t
def RTree.mS (t : RTree) (us : List AV) : S (List Bool × (Nat → AV × List Blk)) :=
  RTree.rec (motive := fun _ => S (List Bool × (Nat → AV × List Blk))) (fun m => S.lift (m us)) (fun c _ _ l r => S.test (c us) l r) t
theorem RTree.snd (us : List AV) : ∀ t : RTree, Snd (t.mS us) (t.m us)
  | .leaf m => Snd.lift _
  | .node c l r => Snd.cb_test (fun _ => RTree.snd us l) (fun _ => RTree.snd us r)
def RTree.All (p : RowM → Prop) : RTree → Prop
  | .leaf m => p m
  | .node _ l r => l.All p ∧ r.All p
theorem RTree.pick {p : RowM → Prop} (us : List AV) : ∀ {t : RTree}, t.All p → ∃ m, p m ∧ m us = t.m us
  | .leaf m, h => ⟨m, h, rfl⟩
  | .node c l r, h => by
    cases hc : c us with
    | true =>
      obtain ⟨m, h1, h2⟩ := RTree.pick us h.1
      exact ⟨m, h1, h2.trans (by show _ = cb (c us) (l.m us) (r.m us); rw [hc]; rfl)⟩
    | false =>
      obtain ⟨m, h1, h2⟩ := RTree.pick us h.2
      exact ⟨m, h1, h2.trans (by show _ = cb (c us) (l.m us) (r.m us); rw [hc]; rfl)⟩

structure RT where
  nf : Bool
  t : RTree
def RT.sum (x : RT) : RSum := ⟨x.nf, x.t.m⟩
/-- of a row that is known: a leaf. -/
def RSum.rt (s : RSum) : RT := ⟨s.nf, .leaf s.m⟩
theorem RT.sound {P : Program} {ty : TypeId → Option ATy} {g : FuncId} {x : RT} (h : x.t.All fun m => RSum.Sound P ty g ⟨x.nf, m⟩) : RSum.Sound P ty g x.sum := by
  intro base w0 g' args H H' v μ w xs hsum hw hr r n
  have hsum' : ftSum ty [(g, x.sum)] g' args H = some (v, H') := hsum
  unfold ftSum at hsum'
  replace hsum' := ob_eq hsum'; obtain ⟨s, hf, hsum'⟩ := hsum'
  have hg : (g', s) = (g, x.sum) := by simpa using ftFind_mem hf
  injection hg with hg1 hg2
  subst hg1; subst hg2
  replace hsum' := ob_eq hsum'; obtain ⟨⟨c1, us⟩, hv, hsum'⟩ := hsum'
  obtain ⟨m, hm1, hm2⟩ := RTree.pick us h
  refine hm1 base w0 (g := g') (args := args) (H := H) (H' := H') (v := v) (μ := μ) (w := w) (xs := xs) ?_ hw hr r n
  show ftSum ty [(g', ⟨x.nf, m⟩)] g' args H = some (v, H')
  unfold ftSum
  have e1 : ftFind [(g', (⟨x.nf, m⟩ : RSum))] g' = some ⟨x.nf, m⟩ := by
    show cb (Nat.beq g' g') _ _ = _
    simp
  rw [e1, ob_some]
  show (viewsV (tyCx ty) H x.nf args).ob _ = _
  have hv' : viewsV (tyCx ty) H x.nf args = some (c1, us) := hv
  rw [hv', ob_some]
  show ((m us).ob _) = _
  rw [hm2]
  exact hsum'
theorem RSum.rt_sound {P : Program} {ty : TypeId → Option ATy} {g : FuncId} {s : RSum} (h : RSum.Sound P ty g s) : RSum.Sound P ty g s.rt.sum := RT.sound h

abbrev TTab := List (FuncId × RT)
def ttFind (l : TTab) (g : FuncId) : Option RT := List.rec (motive := fun _ => Option RT) none (fun p _ r => cb (Nat.beq g p.1) (some p.2) r) l
def ttTab (l : TTab) : FTab := List.rec (motive := fun _ => FTab) [] (fun p _ r => (p.1, p.2.sum) :: r) l
theorem ttFind_tab (l : TTab) (g : FuncId) : ftFind (ttTab l) g = (ttFind l g).map RT.sum := by
  induction l with
  | nil => rfl
  | cons p l ih =>
    show cb (Nat.beq g p.1) (some p.2.sum) (ftFind (ttTab l) g) = (cb (Nat.beq g p.1) (some p.2) (ttFind l g)).map RT.sum
    cases Nat.beq g p.1 with
    | true => rfl
    | false => exact ih
theorem ttTab_mem {l : TTab} {q : FuncId × RSum} (h : q ∈ ttTab l) : ∃ p ∈ l, q = (p.1, p.2.sum) := by
  induction l with
  | nil => cases h
  | cons p l ih =>
    rcases List.mem_cons.1 h with h | h
    · exact ⟨p, List.mem_cons_self, h⟩
    · obtain ⟨p', h1, h2⟩ := ih h
      exact ⟨p', List.mem_cons_of_mem _ h1, h2⟩
def ttSumS (ty : TypeId → Option ATy) (l : TTab) : FuncId → Option (List AV → Heap → S (AV × Heap)) := fun g =>
  (ttFind l g).ob fun s => some fun args H => S.bind (S.lift (viewsV (tyCx ty) H s.nf args)) fun r => S.bind (s.t.mS r.2) fun q => musts (r.1 ++ q.1) (S.pure ((q.2 H.next).1, newAll (q.2 H.next).2 H))
theorem ttSums_snd {cx : Cx} {l : TTab} {ls : LoopS} (h : cx.sum = ftSum cx.ty (ttTab l)) (hl : LoopsSOK cx ls) : SumsOK cx { fn := ttSumS cx.ty l, loop := ls } := by
  refine ⟨fun g m args H hm => ?_, fun g args H hm => ?_, hl⟩
  · simp only [ttSumS] at hm
    replace hm := ob_eq hm; obtain ⟨s, hs, hm⟩ := hm
    injection hm with hm; subst hm
    rw [h, ftSum, ttFind_tab, hs]
    exact Snd.bind (Snd.lift _) fun r _ => Snd.bind (RTree.snd r.2 s.t) fun q _ => musts_snd (Snd.pure _) _
  · simp only [ttSumS] at hm
    rw [h, ftSum, ttFind_tab]
    cases hs : ttFind l g with
    | none => rfl
    | some s => rw [hs] at hm; cases hm

def mkCxT (ty : TypeId → Option ATy) (fn : FuncId → Option Func) (ft : TTab) (lt : MTab) : Cx := { ty := ty, fn := fn, sum := ftSum ty (ttTab ft), loop := mtLoop lt }
def mkST (ty : TypeId → Option ATy) (ft : TTab) (lt : MTab) : SumS := { fn := ttSumS ty ft, loop := mtLoopS lt }
theorem mkST_ok (ty : TypeId → Option ATy) (fn : FuncId → Option Func) (ft : TTab) (lt : MTab) : SumsOK (mkCxT ty fn ft lt) (mkST ty ft lt) :=
  ttSums_snd (cx := mkCxT ty fn ft lt) rfl (mtLoops_snd rfl)
/-- what is owed, one by one. -/
def TOK (P : Program) (ty : TypeId → Option ATy) : TTab → Prop
  | [] => True
  | p :: l => RSum.Sound P ty p.1 p.2.sum ∧ TOK P ty l
theorem TOK.mem {P : Program} {ty : TypeId → Option ATy} : ∀ {l : TTab}, TOK P ty l → ∀ p ∈ l, RSum.Sound P ty p.1 p.2.sum
  | [], _, p, h => by cases h
  | q :: l, hl, p, h => by
    rcases List.mem_cons.1 h with h | h
    · subst h; exact hl.1
    · exact TOK.mem hl.2 p h
def MOK (P : Program) (ty : TypeId → Option ATy) : MTab → Prop
  | [] => True
  | p :: l => p.2.OK P (tyCx ty) p.1.2 ∧ MOK P ty l
theorem MOK.mem {P : Program} {ty : TypeId → Option ATy} : ∀ {l : MTab}, MOK P ty l → ∀ p ∈ l, p.2.OK P (tyCx ty) p.1.2
  | [], _, p, h => by cases h
  | q :: l, hl, p, h => by
    rcases List.mem_cons.1 h with h | h
    · subst h; exact hl.1
    · exact MOK.mem hl.2 p h
theorem sums_allT {P : Program} {ty : TypeId → Option ATy} {fn : FuncId → Option Func} {ft : TTab} {lt : MTab} (hf : TOK P ty ft) (hl : MOK P ty lt) : SumAll P (mkCxT ty fn ft lt) :=
  sums_allM (ft := ttTab ft) (fun q hq => by
    obtain ⟨p, hp, rfl⟩ := ttTab_mem hq
    exact hf.mem p hp) hl.mem
theorem RSum.soundT {P : Program} {ty : TypeId → Option ATy} {fn : FuncId → Option Func} {ft : TTab} {lt : MTab} (hcx : CxOK P (mkCxT ty fn ft lt)) (hs : SumAll P (mkCxT ty fn ft lt)) {g : FuncId} {s : RSum} (h : s.OK (mkCxT ty fn ft lt) g) : RSum.Sound P ty g s :=
  RSum.soundM (ft := ttTab ft) hcx hs h
theorem call_runT {ty : TypeId → Option ATy} {fn : FuncId → Option Func} {ft : TTab} {lt : MTab} {f : Nat} {t : Tgt} {args : List AV} {H : Heap} {v : AV} {ids : List Nat} {bs : List Blk} {q : List Ans} {c : List Cnd}
    (h : part (pCallB ids) (callS (mkCxT ty fn ft lt) (mkST ty ft lt) f t args H q) = some ((v, bs), c)) (hc : HoldsL c) : ∃ h', aCall (mkCxT ty fn ft lt) f t args H = some (v, h') ∧ ids.map h'.get = bs := by
  obtain ⟨⟨v', h'⟩, q', h1, h2⟩ := part_eq h
  injection h2 with h2 h3
  subst h2
  exact ⟨h', callS_snd _ (mkST_ok ty fn ft lt) f t args H q _ q' c h1 hc, h3⟩
end Go.Ab
end
end

/- WordPacks: what is known of the functions that the law calls. -/
section
set_option autoImplicit false
set_option linter.unusedVariables false
set_option linter.unusedSimpArgs false
set_option maxRecDepth 100000
noncomputable section
namespace Go.Proofs.Ytecncappdnhbaaa
open Go.Ab.M Go.Ab Go
def unT1 : List AV → Bool := fun us => match us with
  | [.fsl _ _ _, .int .i64 n] => iltB n (Int.ofNat 0)
  | _ => false
def unT2 : List AV → Bool := fun us => match us with
  | [.fsl _ l _, .int .i64 n] => iltB (wrapA .i64 ((Int.ofNat 8).mul (Int.ofNat l))) n
  | _ => false
def unT3 : List AV → Bool := fun us => match us with
  | [.fsl _ l _, .int .i64 n] => !(ieqB (Int.ofNat l) (wrapA .i64 ((wrapA .i64 (n.add (Int.ofNat 7))).tdiv (Int.ofNat 8))))
  | _ => false
def unT4 : List AV → Bool := fun us => match us with
  | [.fsl _ _ _, .int .i64 n] => ieqB n (Int.ofNat 0)
  | _ => false
def unT5 : List AV → Bool := fun us => match us with
  | [.fsl _ _ cs, .int .i64 (.ofNat n)] => kept (tightB (bytesL cs) n)
  | _ => false
def unT : RTree := .node unT1 (.leaf unB1R.m) (.node unT2 (.leaf unB2R.m) (.node unT3 (.leaf unB3R.m) (.node unT4 (.leaf unZR.m) (.node unT5 (.leaf unOkR.m) (.leaf unNoR.m)))))
theorem unT_ok : unT.All fun m => RSum.Sound Try.prog tys 34 ⟨true, m⟩ := ⟨unB1R_ok, unB2R_ok, unB3R_ok, unZR_ok, unOkR_ok, unNoR_ok⟩
abbrev T5 : TTab := [(34, ⟨true, unT⟩), (33, packR.rt), (15, (RSum.const (.bool true)).rt)]
theorem lives01_ok : RSum.Sound Try.prog tys 15 (RSum.const (.bool true)) := RSum.sound (cx_goes _ _) all0 (RSum.const_ok rfl (let ⟨h', h, _⟩ := lives01; ⟨h', h⟩))
theorem T5_ok : TOK Try.prog tys T5 := ⟨RT.sound unT_ok, RSum.rt_sound packR_ok, RSum.rt_sound lives01_ok, trivial⟩
abbrev M5 : MTab := [((8, 0), plawL), ((35, 0), looL)]
abbrev C5 := mkCxT tys fns T5 M5
abbrev S5 := mkST tys T5 M5
theorem all5 : SumAll Try.prog C5 := sums_allT T5_ok ⟨plawL_ok, looL_ok, trivial⟩
abbrev M5e : MTab := [((35, 0), looL)]
abbrev C5e := mkCxT tys fns T5 M5e
abbrev S5e := mkST tys T5 M5e
theorem all5e : SumAll Try.prog C5e := sums_allT T5_ok ⟨looL_ok, trivial⟩
end Go.Proofs.Ytecncappdnhbaaa
end
end

/- WordPacks: the law. -/
section
set_option autoImplicit false
set_option linter.unusedVariables false
set_option linter.unusedSimpArgs false
set_option maxRecDepth 100000
noncomputable section
namespace Go.Ab
open M
theorem rowCut_ofBools (l : List Bool) (o n : Nat) : rowCut (ofBools l) o n = ofBools ((l.drop o).take n) := by
  unfold rowCut ofBools
  rw [← List.map_drop, ← List.map_take]
theorem bytesOf_full (b : List UInt8) : (bytesOf (ofBytes b)).getD [] = b := by rw [bytesOf_ofBytes]; rfl
end Go.Ab
namespace Go.Proofs.Ytecncappdnhbaaa
open Go.Ab.M Go.Ab Go
theorem wp_b1 (a0 : Bool) (l0 : Nat) (cs0 : List AV) (a1 : Bool) (l1 : Nat) (cs1 : List AV) (n : Int) (h0 : (iltB (Int.ofNat 200) (Int.ofNat l0)) = false) (h1 : (iltB (Int.ofNat 40) (Int.ofNat l1)) = false) (h2 : (AV.plainL cs0) = true) (h3 : (isBoolL cs0) = true) (h4 : (cs0.length.beq l0) = true) (h5 : (l0.ble 1000) = true) (h6 : (iltB (wrapA IntKind.i64 ((Int.ofNat 8).mul (Int.ofNat ((l0.add 7).div 8)))) (Int.ofNat l0)) = false) (h7 : (!ieqB (Int.ofNat ((l0.add 7).div 8)) (wrapA IntKind.i64 ((wrapA IntKind.i64 ((Int.ofNat l0).add (Int.ofNat 7))).tdiv (Int.ofNat 8)))) = false) (h8 : (ieqB (Int.ofNat l0) (Int.ofNat 0)) = false) (h9 : (kept (tightB (bytesL (rowCut (kept (ofBytes (packB ((l0.add 7).div 8) (boolsL cs0)))) 0 ((l0.add 7).div 8 * 1))) l0)) = true) (h10 : ((0 + (l0.add 7).div 8 * 1).ble ((l0.add 7).div 8)) = true) (h11 : (AV.plainL (kept (ofBytes (packB ((l0.add 7).div 8) (boolsL cs0))))) = true) (h12 : (u8L (rowCut (kept (ofBytes (packB ((l0.add 7).div 8) (boolsL cs0)))) 0 ((l0.add 7).div 8 * 1))) = true) (h13 : ((rowCut (kept (ofBytes (packB ((l0.add 7).div 8) (boolsL cs0)))) 0 ((l0.add 7).div 8 * 1)).length.beq ((l0.add 7).div 8)) = true) (h14 : (((l0.add 7).div 8).ble 125) = true) (h15 : (Nat.ble 1 l0) = true) (h16 : (((l0.add 7).div 8).beq ((l0.add 7).div 8)) = true) (h17 : (l0.ble (Nat.mul 8 ((l0.add 7).div 8))) = true) (h18 : (!ieqB (Int.ofNat l0) (Int.ofNat l0)) = false) (h19 : (AV.plainL (kept (ofBools (unB (bytesL (rowCut (kept (ofBytes (packB ((l0.add 7).div 8) (boolsL cs0)))) 0 ((l0.add 7).div 8 * 1))) l0)))) = true) (h20 : (AV.plainL cs1) = true) (h21 : (u8L cs1) = true) (h22 : (cs1.length.beq l1) = true) (h23 : (l0.beq l0) = true) (h24 : (isBoolL (kept (ofBools (unB (bytesL (rowCut (kept (ofBytes (packB ((l0.add 7).div 8) (boolsL cs0)))) 0 ((l0.add 7).div 8 * 1))) l0)))) = true) (h25 : (kept (boolsEq (boolsL (kept (ofBools (unB (bytesL (rowCut (kept (ofBytes (packB ((l0.add 7).div 8) (boolsL cs0)))) 0 ((l0.add 7).div 8 * 1))) l0)))) (boolsL cs0))) = true) (h26 : (u8L (kept (ofBytes (packB ((l0.add 7).div 8) (boolsL cs0))))) = true) (h27 : (kept (bytesEq (bytesL (kept (ofBytes (packB ((l0.add 7).div 8) (boolsL cs0))))) (packB ((l0.add 7).div 8) (boolsL cs0)))) = true) (h28 : (iltB n (Int.ofNat 0)) = true) :
    ∃ h', aCall C5 60 (Tgt.fn 8) [AV.fsl a0 l0 cs0, AV.fsl a1 l1 cs1, AV.int IntKind.i64 n] H0 = some (AV.bool true, h') ∧ [].map h'.get = [] :=
  call_runT (q := (oc 4 (.z :: (.z :: (.z :: (.z :: (.z :: (.y :: (.y :: (.y :: (.y :: (oc 1 (.z :: (.z :: (.z :: (.y :: (.y :: (.y :: (.y :: (.y :: (.y :: (.y :: (.y :: (.y :: (.y :: (oc 6 (.z :: (.z :: (.z :: (.z :: (.z :: (.z :: (oc 1 (.z :: (.z :: (.z :: (oc 2 (.y :: (oc 1 (.y :: (.y :: (.y :: (.y :: (.y :: (.y :: (.y :: (.y :: (.y :: (.y :: (.y :: (.y :: (.y :: (.y :: (.y :: (.y :: (.y :: (.y :: (.y :: (.y :: (oc 4 (.y :: (.y :: (.y :: (.y :: (.y :: (oc 1 (.y :: (oc 16 [])))))))))))))))))))))))))))))))))))))))))))))))))))))))))))))))))))) (c := (Cnd.tst _ false :: Cnd.tst _ false :: Cnd.tst _ false :: Cnd.tst _ false :: Cnd.tst _ false :: Cnd.tst _ true :: Cnd.tst _ true :: Cnd.tst _ true :: Cnd.tst _ true :: Cnd.tst _ false :: Cnd.tst _ false :: Cnd.tst _ false :: Cnd.tst _ true :: Cnd.tst _ true :: Cnd.tst _ true :: Cnd.tst _ true :: Cnd.tst _ true :: Cnd.tst _ true :: Cnd.tst _ true :: Cnd.tst _ true :: Cnd.tst _ true :: Cnd.tst _ true :: Cnd.tst _ false :: Cnd.tst _ false :: Cnd.tst _ false :: Cnd.tst _ false :: Cnd.tst _ false :: Cnd.tst _ false :: Cnd.tst _ false :: Cnd.tst _ false :: Cnd.tst _ false :: Cnd.code ((8, 0), plawL).snd.lsumS.fst ((8, 0), plawL).snd.lsumS.fst :: Cnd.tst _ true :: Cnd.tst _ true :: Cnd.tst _ true :: Cnd.tst _ true :: Cnd.tst _ true :: Cnd.tst _ true :: Cnd.tst _ true :: Cnd.tst _ true :: Cnd.tst _ true :: Cnd.tst _ true :: Cnd.tst _ true :: Cnd.tst _ true :: Cnd.tst _ true :: Cnd.tst _ true :: Cnd.tst _ true :: Cnd.tst _ true :: Cnd.tst _ true :: Cnd.tst _ true :: Cnd.tst _ true :: Cnd.tst _ true :: Cnd.tst _ true :: Cnd.tst _ true :: Cnd.tst _ true :: Cnd.tst _ true :: Cnd.tst _ true :: Cnd.tst _ true :: Cnd.tst _ true :: [])) (by kernel_rfl) ⟨h0, h0, h0, h0, h1, h2, h3, h4, h5, h6, h7, h8, h9, h10, h11, h12, h13, h14, h15, h16, h17, h9, h18, h18, h18, h18, h18, h18, h18, h18, h7, rfl, h19, h11, h2, h20, h3, h4, h21, h22, h23, h23, h23, h16, h5, h17, h24, h25, h26, h27, h28, h20, h28, h28, h28, h28, h28, h28, h28, trivial⟩
theorem wp_b2 (a0 : Bool) (l0 : Nat) (cs0 : List AV) (a1 : Bool) (l1 : Nat) (cs1 : List AV) (n : Nat) (h0 : (iltB (Int.ofNat 200) (Int.ofNat l0)) = false) (h1 : (iltB (Int.ofNat 40) (Int.ofNat l1)) = false) (h2 : (AV.plainL cs0) = true) (h3 : (isBoolL cs0) = true) (h4 : (cs0.length.beq l0) = true) (h5 : (l0.ble 1000) = true) (h6 : (iltB (wrapA IntKind.i64 ((Int.ofNat 8).mul (Int.ofNat ((l0.add 7).div 8)))) (Int.ofNat l0)) = false) (h7 : (!ieqB (Int.ofNat ((l0.add 7).div 8)) (wrapA IntKind.i64 ((wrapA IntKind.i64 ((Int.ofNat l0).add (Int.ofNat 7))).tdiv (Int.ofNat 8)))) = false) (h8 : (ieqB (Int.ofNat l0) (Int.ofNat 0)) = false) (h9 : (kept (tightB (bytesL (rowCut (kept (ofBytes (packB ((l0.add 7).div 8) (boolsL cs0)))) 0 ((l0.add 7).div 8 * 1))) l0)) = true) (h10 : ((0 + (l0.add 7).div 8 * 1).ble ((l0.add 7).div 8)) = true) (h11 : (AV.plainL (kept (ofBytes (packB ((l0.add 7).div 8) (boolsL cs0))))) = true) (h12 : (u8L (rowCut (kept (ofBytes (packB ((l0.add 7).div 8) (boolsL cs0)))) 0 ((l0.add 7).div 8 * 1))) = true) (h13 : ((rowCut (kept (ofBytes (packB ((l0.add 7).div 8) (boolsL cs0)))) 0 ((l0.add 7).div 8 * 1)).length.beq ((l0.add 7).div 8)) = true) (h14 : (((l0.add 7).div 8).ble 125) = true) (h15 : (Nat.ble 1 l0) = true) (h16 : (((l0.add 7).div 8).beq ((l0.add 7).div 8)) = true) (h17 : (l0.ble (Nat.mul 8 ((l0.add 7).div 8))) = true) (h18 : (!ieqB (Int.ofNat l0) (Int.ofNat l0)) = false) (h19 : (AV.plainL (kept (ofBools (unB (bytesL (rowCut (kept (ofBytes (packB ((l0.add 7).div 8) (boolsL cs0)))) 0 ((l0.add 7).div 8 * 1))) l0)))) = true) (h20 : (AV.plainL cs1) = true) (h21 : (u8L cs1) = true) (h22 : (cs1.length.beq l1) = true) (h23 : (l0.beq l0) = true) (h24 : (isBoolL (kept (ofBools (unB (bytesL (rowCut (kept (ofBytes (packB ((l0.add 7).div 8) (boolsL cs0)))) 0 ((l0.add 7).div 8 * 1))) l0)))) = true) (h25 : (kept (boolsEq (boolsL (kept (ofBools (unB (bytesL (rowCut (kept (ofBytes (packB ((l0.add 7).div 8) (boolsL cs0)))) 0 ((l0.add 7).div 8 * 1))) l0)))) (boolsL cs0))) = true) (h26 : (u8L (kept (ofBytes (packB ((l0.add 7).div 8) (boolsL cs0))))) = true) (h27 : (kept (bytesEq (bytesL (kept (ofBytes (packB ((l0.add 7).div 8) (boolsL cs0))))) (packB ((l0.add 7).div 8) (boolsL cs0)))) = true) (h28 : (iltB (wrapA IntKind.i64 ((Int.ofNat 8).mul (Int.ofNat l1))) (Int.ofNat n)) = true) :
    ∃ h', aCall C5 60 (Tgt.fn 8) [AV.fsl a0 l0 cs0, AV.fsl a1 l1 cs1, AV.int IntKind.i64 (Int.ofNat n)] H0 = some (AV.bool true, h') ∧ [].map h'.get = [] :=
  call_runT (q := (oc 4 (.z :: (.z :: (.z :: (.z :: (.z :: (.y :: (.y :: (.y :: (.y :: (oc 1 (.z :: (.z :: (.z :: (.y :: (.y :: (.y :: (.y :: (.y :: (.y :: (.y :: (.y :: (.y :: (.y :: (oc 6 (.z :: (.z :: (.z :: (.z :: (.z :: (.z :: (oc 1 (.z :: (.z :: (.z :: (oc 2 (.y :: (oc 1 (.y :: (.y :: (.y :: (.y :: (.y :: (.y :: (.y :: (.y :: (.y :: (.y :: (.y :: (.y :: (.y :: (.y :: (.y :: (.y :: (.y :: (oc 1 (.y :: (.y :: (oc 1 (.y :: (oc 12 (.y :: (.y :: (.y :: (.y :: (.y :: (.y :: (oc 1 (.y :: (oc 7 []))))))))))))))))))))))))))))))))))))))))))))))))))))))))))))))))))))))) (c := (Cnd.tst _ false :: Cnd.tst _ false :: Cnd.tst _ false :: Cnd.tst _ false :: Cnd.tst _ false :: Cnd.tst _ true :: Cnd.tst _ true :: Cnd.tst _ true :: Cnd.tst _ true :: Cnd.tst _ false :: Cnd.tst _ false :: Cnd.tst _ false :: Cnd.tst _ true :: Cnd.tst _ true :: Cnd.tst _ true :: Cnd.tst _ true :: Cnd.tst _ true :: Cnd.tst _ true :: Cnd.tst _ true :: Cnd.tst _ true :: Cnd.tst _ true :: Cnd.tst _ true :: Cnd.tst _ false :: Cnd.tst _ false :: Cnd.tst _ false :: Cnd.tst _ false :: Cnd.tst _ false :: Cnd.tst _ false :: Cnd.tst _ false :: Cnd.tst _ false :: Cnd.tst _ false :: Cnd.code ((8, 0), plawL).snd.lsumS.fst ((8, 0), plawL).snd.lsumS.fst :: Cnd.tst _ true :: Cnd.tst _ true :: Cnd.tst _ true :: Cnd.tst _ true :: Cnd.tst _ true :: Cnd.tst _ true :: Cnd.tst _ true :: Cnd.tst _ true :: Cnd.tst _ true :: Cnd.tst _ true :: Cnd.tst _ true :: Cnd.tst _ true :: Cnd.tst _ true :: Cnd.tst _ true :: Cnd.tst _ true :: Cnd.tst _ true :: Cnd.tst _ true :: Cnd.tst _ true :: Cnd.tst _ true :: Cnd.tst _ true :: Cnd.tst _ true :: Cnd.tst _ true :: Cnd.tst _ true :: Cnd.tst _ true :: Cnd.tst _ true :: Cnd.tst _ true :: Cnd.tst _ true :: Cnd.tst _ true :: [])) (by kernel_rfl) ⟨h0, h0, h0, h0, h1, h2, h3, h4, h5, h6, h7, h8, h9, h10, h11, h12, h13, h14, h15, h16, h17, h9, h18, h18, h18, h18, h18, h18, h18, h18, h7, rfl, h19, h11, h2, h20, h3, h4, h21, h22, h23, h23, h23, h16, h5, h17, h24, h25, h26, h27, h28, h20, h28, h28, h28, h28, h28, h28, h28, h28, trivial⟩
theorem wp_b3 (a0 : Bool) (l0 : Nat) (cs0 : List AV) (a1 : Bool) (l1 : Nat) (cs1 : List AV) (n : Nat) (h0 : (iltB (Int.ofNat 200) (Int.ofNat l0)) = false) (h1 : (iltB (Int.ofNat 40) (Int.ofNat l1)) = false) (h2 : (AV.plainL cs0) = true) (h3 : (isBoolL cs0) = true) (h4 : (cs0.length.beq l0) = true) (h5 : (l0.ble 1000) = true) (h6 : (iltB (wrapA IntKind.i64 ((Int.ofNat 8).mul (Int.ofNat ((l0.add 7).div 8)))) (Int.ofNat l0)) = false) (h7 : (!ieqB (Int.ofNat ((l0.add 7).div 8)) (wrapA IntKind.i64 ((wrapA IntKind.i64 ((Int.ofNat l0).add (Int.ofNat 7))).tdiv (Int.ofNat 8)))) = false) (h8 : (ieqB (Int.ofNat l0) (Int.ofNat 0)) = false) (h9 : (kept (tightB (bytesL (rowCut (kept (ofBytes (packB ((l0.add 7).div 8) (boolsL cs0)))) 0 ((l0.add 7).div 8 * 1))) l0)) = true) (h10 : ((0 + (l0.add 7).div 8 * 1).ble ((l0.add 7).div 8)) = true) (h11 : (AV.plainL (kept (ofBytes (packB ((l0.add 7).div 8) (boolsL cs0))))) = true) (h12 : (u8L (rowCut (kept (ofBytes (packB ((l0.add 7).div 8) (boolsL cs0)))) 0 ((l0.add 7).div 8 * 1))) = true) (h13 : ((rowCut (kept (ofBytes (packB ((l0.add 7).div 8) (boolsL cs0)))) 0 ((l0.add 7).div 8 * 1)).length.beq ((l0.add 7).div 8)) = true) (h14 : (((l0.add 7).div 8).ble 125) = true) (h15 : (Nat.ble 1 l0) = true) (h16 : (((l0.add 7).div 8).beq ((l0.add 7).div 8)) = true) (h17 : (l0.ble (Nat.mul 8 ((l0.add 7).div 8))) = true) (h18 : (!ieqB (Int.ofNat l0) (Int.ofNat l0)) = false) (h19 : (AV.plainL (kept (ofBools (unB (bytesL (rowCut (kept (ofBytes (packB ((l0.add 7).div 8) (boolsL cs0)))) 0 ((l0.add 7).div 8 * 1))) l0)))) = true) (h20 : (AV.plainL cs1) = true) (h21 : (u8L cs1) = true) (h22 : (cs1.length.beq l1) = true) (h23 : (l0.beq l0) = true) (h24 : (isBoolL (kept (ofBools (unB (bytesL (rowCut (kept (ofBytes (packB ((l0.add 7).div 8) (boolsL cs0)))) 0 ((l0.add 7).div 8 * 1))) l0)))) = true) (h25 : (kept (boolsEq (boolsL (kept (ofBools (unB (bytesL (rowCut (kept (ofBytes (packB ((l0.add 7).div 8) (boolsL cs0)))) 0 ((l0.add 7).div 8 * 1))) l0)))) (boolsL cs0))) = true) (h26 : (u8L (kept (ofBytes (packB ((l0.add 7).div 8) (boolsL cs0))))) = true) (h27 : (kept (bytesEq (bytesL (kept (ofBytes (packB ((l0.add 7).div 8) (boolsL cs0))))) (packB ((l0.add 7).div 8) (boolsL cs0)))) = true) (h28 : (iltB (wrapA IntKind.i64 ((Int.ofNat 8).mul (Int.ofNat l1))) (Int.ofNat n)) = false) (h29 : (!ieqB (Int.ofNat l1) (wrapA IntKind.i64 ((wrapA IntKind.i64 ((Int.ofNat n).add (Int.ofNat 7))).tdiv (Int.ofNat 8)))) = true) (h30 : (!iltB (wrapA IntKind.i64 ((Int.ofNat 8).mul (Int.ofNat l1))) (Int.ofNat n)) = true) (h31 : (!ieqB (wrapA IntKind.i64 ((wrapA IntKind.i64 ((Int.ofNat n).add (Int.ofNat 7))).tdiv (Int.ofNat 8))) (Int.ofNat l1)) = true) :
    ∃ h', aCall C5 60 (Tgt.fn 8) [AV.fsl a0 l0 cs0, AV.fsl a1 l1 cs1, AV.int IntKind.i64 (Int.ofNat n)] H0 = some (AV.bool true, h') ∧ [].map h'.get = [] :=
  call_runT (q := (oc 4 (.z :: (.z :: (.z :: (.z :: (.z :: (.y :: (.y :: (.y :: (.y :: (oc 1 (.z :: (.z :: (.z :: (.y :: (.y :: (.y :: (.y :: (.y :: (.y :: (.y :: (.y :: (.y :: (.y :: (oc 6 (.z :: (.z :: (.z :: (.z :: (.z :: (.z :: (oc 1 (.z :: (.z :: (.z :: (oc 2 (.y :: (oc 1 (.y :: (.y :: (.y :: (.y :: (.y :: (.y :: (.y :: (.y :: (.y :: (.y :: (.y :: (.y :: (.y :: (.y :: (.y :: (.y :: (.y :: (oc 1 (.z :: (.y :: (.y :: (oc 1 (.y :: (.y :: (oc 12 (.z :: (.z :: (.z :: (oc 1 (.z :: (.z :: (.z :: (oc 1 (.z :: (oc 1 (.y :: (.y :: (.y :: (oc 1 (.y :: (oc 1 [])))))))))))))))))))))))))))))))))))))))))))))))))))))))))))))))))))))))))))))))) (c := (Cnd.tst _ false :: Cnd.tst _ false :: Cnd.tst _ false :: Cnd.tst _ false :: Cnd.tst _ false :: Cnd.tst _ true :: Cnd.tst _ true :: Cnd.tst _ true :: Cnd.tst _ true :: Cnd.tst _ false :: Cnd.tst _ false :: Cnd.tst _ false :: Cnd.tst _ true :: Cnd.tst _ true :: Cnd.tst _ true :: Cnd.tst _ true :: Cnd.tst _ true :: Cnd.tst _ true :: Cnd.tst _ true :: Cnd.tst _ true :: Cnd.tst _ true :: Cnd.tst _ true :: Cnd.tst _ false :: Cnd.tst _ false :: Cnd.tst _ false :: Cnd.tst _ false :: Cnd.tst _ false :: Cnd.tst _ false :: Cnd.tst _ false :: Cnd.tst _ false :: Cnd.tst _ false :: Cnd.code ((8, 0), plawL).snd.lsumS.fst ((8, 0), plawL).snd.lsumS.fst :: Cnd.tst _ true :: Cnd.tst _ true :: Cnd.tst _ true :: Cnd.tst _ true :: Cnd.tst _ true :: Cnd.tst _ true :: Cnd.tst _ true :: Cnd.tst _ true :: Cnd.tst _ true :: Cnd.tst _ true :: Cnd.tst _ true :: Cnd.tst _ true :: Cnd.tst _ true :: Cnd.tst _ true :: Cnd.tst _ true :: Cnd.tst _ true :: Cnd.tst _ true :: Cnd.tst _ true :: Cnd.tst _ false :: Cnd.tst _ true :: Cnd.tst _ true :: Cnd.tst _ true :: Cnd.tst _ true :: Cnd.tst _ false :: Cnd.tst _ false :: Cnd.tst _ false :: Cnd.tst _ false :: Cnd.tst _ false :: Cnd.tst _ false :: Cnd.tst _ false :: Cnd.tst _ true :: Cnd.tst _ true :: Cnd.tst _ true :: Cnd.tst _ true :: [])) (by kernel_rfl) ⟨h0, h0, h0, h0, h1, h2, h3, h4, h5, h6, h7, h8, h9, h10, h11, h12, h13, h14, h15, h16, h17, h9, h18, h18, h18, h18, h18, h18, h18, h18, h7, rfl, h19, h11, h2, h20, h3, h4, h21, h22, h23, h23, h23, h16, h5, h17, h24, h25, h26, h27, h28, h29, h20, h30, h29, h28, h28, h28, h28, h28, h28, h28, h31, h31, h31, h31, trivial⟩
theorem wp_z (a0 : Bool) (l0 : Nat) (cs0 : List AV) (a1 : Bool) (l1 : Nat) (cs1 : List AV) (n : Nat) (h0 : (iltB (Int.ofNat 200) (Int.ofNat l0)) = false) (h1 : (iltB (Int.ofNat 40) (Int.ofNat l1)) = false) (h2 : (AV.plainL cs0) = true) (h3 : (isBoolL cs0) = true) (h4 : (cs0.length.beq l0) = true) (h5 : (l0.ble 1000) = true) (h6 : (iltB (wrapA IntKind.i64 ((Int.ofNat 8).mul (Int.ofNat ((l0.add 7).div 8)))) (Int.ofNat l0)) = false) (h7 : (!ieqB (Int.ofNat ((l0.add 7).div 8)) (wrapA IntKind.i64 ((wrapA IntKind.i64 ((Int.ofNat l0).add (Int.ofNat 7))).tdiv (Int.ofNat 8)))) = false) (h8 : (ieqB (Int.ofNat l0) (Int.ofNat 0)) = false) (h9 : (kept (tightB (bytesL (rowCut (kept (ofBytes (packB ((l0.add 7).div 8) (boolsL cs0)))) 0 ((l0.add 7).div 8 * 1))) l0)) = true) (h10 : ((0 + (l0.add 7).div 8 * 1).ble ((l0.add 7).div 8)) = true) (h11 : (AV.plainL (kept (ofBytes (packB ((l0.add 7).div 8) (boolsL cs0))))) = true) (h12 : (u8L (rowCut (kept (ofBytes (packB ((l0.add 7).div 8) (boolsL cs0)))) 0 ((l0.add 7).div 8 * 1))) = true) (h13 : ((rowCut (kept (ofBytes (packB ((l0.add 7).div 8) (boolsL cs0)))) 0 ((l0.add 7).div 8 * 1)).length.beq ((l0.add 7).div 8)) = true) (h14 : (((l0.add 7).div 8).ble 125) = true) (h15 : (Nat.ble 1 l0) = true) (h16 : (((l0.add 7).div 8).beq ((l0.add 7).div 8)) = true) (h17 : (l0.ble (Nat.mul 8 ((l0.add 7).div 8))) = true) (h18 : (!ieqB (Int.ofNat l0) (Int.ofNat l0)) = false) (h19 : (AV.plainL (kept (ofBools (unB (bytesL (rowCut (kept (ofBytes (packB ((l0.add 7).div 8) (boolsL cs0)))) 0 ((l0.add 7).div 8 * 1))) l0)))) = true) (h20 : (AV.plainL cs1) = true) (h21 : (u8L cs1) = true) (h22 : (cs1.length.beq l1) = true) (h23 : (l0.beq l0) = true) (h24 : (isBoolL (kept (ofBools (unB (bytesL (rowCut (kept (ofBytes (packB ((l0.add 7).div 8) (boolsL cs0)))) 0 ((l0.add 7).div 8 * 1))) l0)))) = true) (h25 : (kept (boolsEq (boolsL (kept (ofBools (unB (bytesL (rowCut (kept (ofBytes (packB ((l0.add 7).div 8) (boolsL cs0)))) 0 ((l0.add 7).div 8 * 1))) l0)))) (boolsL cs0))) = true) (h26 : (u8L (kept (ofBytes (packB ((l0.add 7).div 8) (boolsL cs0))))) = true) (h27 : (kept (bytesEq (bytesL (kept (ofBytes (packB ((l0.add 7).div 8) (boolsL cs0))))) (packB ((l0.add 7).div 8) (boolsL cs0)))) = true) (h28 : (iltB (wrapA IntKind.i64 ((Int.ofNat 8).mul (Int.ofNat l1))) (Int.ofNat n)) = false) (h29 : (!ieqB (Int.ofNat l1) (wrapA IntKind.i64 ((wrapA IntKind.i64 ((Int.ofNat n).add (Int.ofNat 7))).tdiv (Int.ofNat 8)))) = false) (h30 : (ieqB (Int.ofNat n) (Int.ofNat 0)) = true) (h31 : (!iltB (wrapA IntKind.i64 ((Int.ofNat 8).mul (Int.ofNat l1))) (Int.ofNat n)) = true) (h32 : (ieqB (Int.ofNat l1) (wrapA IntKind.i64 ((wrapA IntKind.i64 ((Int.ofNat n).add (Int.ofNat 7))).tdiv (Int.ofNat 8)))) = true) (h33 : (!iltB (Int.ofNat 0) (wrapA IntKind.i64 ((Int.ofNat 8).mul (Int.ofNat l1)))) = true) (h34 : (ieqB (Int.ofNat 0) (Int.ofNat n)) = true) (h35 : ((bytesOf cs1).isSome) = true) :
    ∃ h', aCall C5 60 (Tgt.fn 8) [AV.fsl a0 l0 cs0, AV.fsl a1 l1 cs1, AV.int IntKind.i64 (Int.ofNat n)] H0 = some (AV.bool (bytesEq [] ((bytesOf cs1).getD [])), h') ∧ [].map h'.get = [] :=
  call_runT (q := (oc 4 (.z :: (.z :: (.z :: (.z :: (.z :: (.y :: (.y :: (.y :: (.y :: (oc 1 (.z :: (.z :: (.z :: (.y :: (.y :: (.y :: (.y :: (.y :: (.y :: (.y :: (.y :: (.y :: (.y :: (oc 6 (.z :: (.z :: (.z :: (.z :: (.z :: (.z :: (oc 1 (.z :: (.z :: (.z :: (oc 2 (.y :: (oc 1 (.y :: (.y :: (.y :: (.y :: (.y :: (.y :: (.y :: (.y :: (.y :: (.y :: (.y :: (.y :: (.y :: (.y :: (.y :: (.y :: (.y :: (oc 1 (.z :: (.z :: (.y :: (.y :: (oc 1 (.y :: (.y :: (.y :: (oc 1 (.y :: (.y :: (.y :: (.y :: (.y :: (.y :: (oc 3 (.y :: (oc 2 (.y :: (.y :: (oc 2 (.y :: (.y :: (.y :: (.y :: (oc 1 (.y :: (.y :: (.y :: (.y :: (.y :: (.y :: (.y :: (.y :: (.y :: (.y :: (.y :: (.y :: (oc 3 (.y :: (.y :: (.y :: (.y :: (.y :: []))))))))))))))))))))))))))))))))))))))))))))))))))))))))))))))))))))))))))))))))))))))))))))))))))))) (c := (Cnd.tst _ false :: Cnd.tst _ false :: Cnd.tst _ false :: Cnd.tst _ false :: Cnd.tst _ false :: Cnd.tst _ true :: Cnd.tst _ true :: Cnd.tst _ true :: Cnd.tst _ true :: Cnd.tst _ false :: Cnd.tst _ false :: Cnd.tst _ false :: Cnd.tst _ true :: Cnd.tst _ true :: Cnd.tst _ true :: Cnd.tst _ true :: Cnd.tst _ true :: Cnd.tst _ true :: Cnd.tst _ true :: Cnd.tst _ true :: Cnd.tst _ true :: Cnd.tst _ true :: Cnd.tst _ false :: Cnd.tst _ false :: Cnd.tst _ false :: Cnd.tst _ false :: Cnd.tst _ false :: Cnd.tst _ false :: Cnd.tst _ false :: Cnd.tst _ false :: Cnd.tst _ false :: Cnd.code ((8, 0), plawL).snd.lsumS.fst ((8, 0), plawL).snd.lsumS.fst :: Cnd.tst _ true :: Cnd.tst _ true :: Cnd.tst _ true :: Cnd.tst _ true :: Cnd.tst _ true :: Cnd.tst _ true :: Cnd.tst _ true :: Cnd.tst _ true :: Cnd.tst _ true :: Cnd.tst _ true :: Cnd.tst _ true :: Cnd.tst _ true :: Cnd.tst _ true :: Cnd.tst _ true :: Cnd.tst _ true :: Cnd.tst _ true :: Cnd.tst _ true :: Cnd.tst _ true :: Cnd.tst _ false :: Cnd.tst _ false :: Cnd.tst _ true :: Cnd.tst _ true :: Cnd.tst _ true :: Cnd.tst _ true :: Cnd.tst _ true :: Cnd.tst _ true :: Cnd.tst _ true :: Cnd.tst _ true :: Cnd.tst _ true :: Cnd.tst _ true :: Cnd.tst _ true :: Cnd.tst _ true :: Cnd.tst _ true :: Cnd.tst _ true :: Cnd.same (AV.int IntKind.i64 (Int.ofNat n)) (AV.int IntKind.i64 (Int.ofNat n)) :: Cnd.same (AV.bool (ieqB (Int.ofNat 0) (Int.ofNat n))) (AV.bool (ieqB (Int.ofNat 0) (Int.ofNat n))) :: Cnd.same (AV.bool (ieqB (Int.ofNat 0) (Int.ofNat n))) (AV.bool (ieqB (Int.ofNat 0) (Int.ofNat n))) :: Cnd.tst _ true :: Cnd.tst _ true :: Cnd.same (AV.fsl a1 l1 cs1) (AV.fsl a1 l1 cs1) :: Cnd.same (AV.fsl a1 l1 cs1) (AV.fsl a1 l1 cs1) :: Cnd.tst _ true :: Cnd.tst _ true :: Cnd.tst _ true :: Cnd.same (AV.str ((bytesOf cs1).getD [])) (AV.str ((bytesOf cs1).getD [])) :: Cnd.tst _ true :: Cnd.tst _ true :: Cnd.same (AV.str ((bytesOf cs1).getD [])) (AV.str ((bytesOf cs1).getD [])) :: Cnd.tst _ true :: Cnd.tst _ true :: Cnd.tst _ true :: Cnd.same (AV.bool (bytesEq [] ((bytesOf cs1).getD []))) (AV.bool (bytesEq [] ((bytesOf cs1).getD []))) :: Cnd.tst _ true :: Cnd.same (AV.bool (bytesEq [] ((bytesOf cs1).getD []))) (AV.bool (bytesEq [] ((bytesOf cs1).getD []))) :: Cnd.same (AV.bool (bytesEq [] ((bytesOf cs1).getD []))) (AV.bool (bytesEq [] ((bytesOf cs1).getD []))) :: [])) (by kernel_rfl) ⟨h0, h0, h0, h0, h1, h2, h3, h4, h5, h6, h7, h8, h9, h10, h11, h12, h13, h14, h15, h16, h17, h9, h18, h18, h18, h18, h18, h18, h18, h18, h7, rfl, h19, h11, h2, h20, h3, h4, h21, h22, h23, h23, h23, h16, h5, h17, h24, h25, h26, h27, h28, h29, h30, h20, h31, h32, h33, h34, h34, h34, h22, h35, h34, h34, h34, h34, rfl, rfl, rfl, h34, h34, rfl, rfl, h34, h22, h35, rfl, h22, h35, rfl, h34, h34, h34, rfl, h34, rfl, rfl, trivial⟩
theorem wp_ok (a0 : Bool) (l0 : Nat) (cs0 : List AV) (a1 : Bool) (l1 : Nat) (cs1 : List AV) (n : Nat) (h0 : (iltB (Int.ofNat 200) (Int.ofNat l0)) = false) (h1 : (iltB (Int.ofNat 40) (Int.ofNat l1)) = false) (h2 : (AV.plainL cs0) = true) (h3 : (isBoolL cs0) = true) (h4 : (cs0.length.beq l0) = true) (h5 : (l0.ble 1000) = true) (h6 : (iltB (wrapA IntKind.i64 ((Int.ofNat 8).mul (Int.ofNat ((l0.add 7).div 8)))) (Int.ofNat l0)) = false) (h7 : (!ieqB (Int.ofNat ((l0.add 7).div 8)) (wrapA IntKind.i64 ((wrapA IntKind.i64 ((Int.ofNat l0).add (Int.ofNat 7))).tdiv (Int.ofNat 8)))) = false) (h8 : (ieqB (Int.ofNat l0) (Int.ofNat 0)) = false) (h9 : (kept (tightB (bytesL (rowCut (kept (ofBytes (packB ((l0.add 7).div 8) (boolsL cs0)))) 0 ((l0.add 7).div 8 * 1))) l0)) = true) (h10 : ((0 + (l0.add 7).div 8 * 1).ble ((l0.add 7).div 8)) = true) (h11 : (AV.plainL (kept (ofBytes (packB ((l0.add 7).div 8) (boolsL cs0))))) = true) (h12 : (u8L (rowCut (kept (ofBytes (packB ((l0.add 7).div 8) (boolsL cs0)))) 0 ((l0.add 7).div 8 * 1))) = true) (h13 : ((rowCut (kept (ofBytes (packB ((l0.add 7).div 8) (boolsL cs0)))) 0 ((l0.add 7).div 8 * 1)).length.beq ((l0.add 7).div 8)) = true) (h14 : (((l0.add 7).div 8).ble 125) = true) (h15 : (Nat.ble 1 l0) = true) (h16 : (((l0.add 7).div 8).beq ((l0.add 7).div 8)) = true) (h17 : (l0.ble (Nat.mul 8 ((l0.add 7).div 8))) = true) (h18 : (!ieqB (Int.ofNat l0) (Int.ofNat l0)) = false) (h19 : (AV.plainL (kept (ofBools (unB (bytesL (rowCut (kept (ofBytes (packB ((l0.add 7).div 8) (boolsL cs0)))) 0 ((l0.add 7).div 8 * 1))) l0)))) = true) (h20 : (AV.plainL cs1) = true) (h21 : (u8L cs1) = true) (h22 : (cs1.length.beq l1) = true) (h23 : (l0.beq l0) = true) (h24 : (isBoolL (kept (ofBools (unB (bytesL (rowCut (kept (ofBytes (packB ((l0.add 7).div 8) (boolsL cs0)))) 0 ((l0.add 7).div 8 * 1))) l0)))) = true) (h25 : (kept (boolsEq (boolsL (kept (ofBools (unB (bytesL (rowCut (kept (ofBytes (packB ((l0.add 7).div 8) (boolsL cs0)))) 0 ((l0.add 7).div 8 * 1))) l0)))) (boolsL cs0))) = true) (h26 : (u8L (kept (ofBytes (packB ((l0.add 7).div 8) (boolsL cs0))))) = true) (h27 : (kept (bytesEq (bytesL (kept (ofBytes (packB ((l0.add 7).div 8) (boolsL cs0))))) (packB ((l0.add 7).div 8) (boolsL cs0)))) = true) (h28 : (iltB (wrapA IntKind.i64 ((Int.ofNat 8).mul (Int.ofNat l1))) (Int.ofNat n)) = false) (h29 : (!ieqB (Int.ofNat l1) (wrapA IntKind.i64 ((wrapA IntKind.i64 ((Int.ofNat n).add (Int.ofNat 7))).tdiv (Int.ofNat 8)))) = false) (h30 : (ieqB (Int.ofNat n) (Int.ofNat 0)) = false) (h31 : (kept (tightB (bytesL cs1) n)) = true) (h32 : (l1.ble 125) = true) (h33 : (Nat.ble 1 n) = true) (h34 : (l1.beq ((n.add 7).div 8)) = true) (h35 : (n.ble (Nat.mul 8 l1)) = true) (h36 : (ieqB (Int.ofNat n) (Int.ofNat n)) = true) (h37 : ((bytesOf cs1).isSome) = true) (h38 : ((0 + n * 1).ble n) = true) (h39 : (AV.plainL (kept (ofBools (unB (bytesL cs1) n)))) = true) (h40 : (isBoolL (rowCut (kept (ofBools (unB (bytesL cs1) n))) 0 (n * 1))) = true) (h41 : ((rowCut (kept (ofBools (unB (bytesL cs1) n))) 0 (n * 1)).length.beq n) = true) (h42 : (n.ble 1000) = true) (h43 : ((0 + (n.add 7).div 8).ble ((n.add 7).div 8)) = true) (h44 : ((bytesOf (rowCut (kept (ofBytes (packB ((n.add 7).div 8) (boolsL (rowCut (kept (ofBools (unB (bytesL cs1) n))) 0 (n * 1)))))) 0 ((n.add 7).div 8))).isSome) = true) :
    ∃ h', aCall C5 60 (Tgt.fn 8) [AV.fsl a0 l0 cs0, AV.fsl a1 l1 cs1, AV.int IntKind.i64 (Int.ofNat n)] H0 = some (AV.bool (bytesEq ((bytesOf (rowCut (kept (ofBytes (packB ((n.add 7).div 8) (boolsL (rowCut (kept (ofBools (unB (bytesL cs1) n))) 0 (n * 1)))))) 0 ((n.add 7).div 8))).getD []) ((bytesOf cs1).getD [])), h') ∧ [].map h'.get = [] :=
  call_runT (q := (oc 4 (.z :: (.z :: (.z :: (.z :: (.z :: (.y :: (.y :: (.y :: (.y :: (oc 1 (.z :: (.z :: (.z :: (.y :: (.y :: (.y :: (.y :: (.y :: (.y :: (.y :: (.y :: (.y :: (.y :: (oc 6 (.z :: (.z :: (.z :: (.z :: (.z :: (.z :: (oc 1 (.z :: (.z :: (.z :: (oc 2 (.y :: (oc 1 (.y :: (.y :: (.y :: (.y :: (.y :: (.y :: (.y :: (.y :: (.y :: (.y :: (.y :: (.y :: (.y :: (.y :: (.y :: (.y :: (.y :: (oc 1 (.z :: (.z :: (.z :: (.y :: (.y :: (.y :: (.y :: (.y :: (.y :: (.y :: (.y :: (.y :: (oc 1 (.y :: (.y :: (.y :: (.y :: (.y :: (.y :: (.y :: (.y :: (.y :: (.y :: (.y :: (.y :: (.y :: (.y :: (.y :: (.y :: (.y :: (.y :: (.y :: (.y :: (.y :: (.y :: (.y :: (.y :: (.y :: (.y :: (.y :: (.y :: (.y :: (.y :: (.y :: (.y :: (.y :: (.y :: (.y :: (.y :: (.y :: (.y :: (.y :: (.y :: (.y :: (.y :: (.y :: []))))))))))))))))))))))))))))))))))))))))))))))))))))))))))))))))))))))))))))))))))))))))))))))))))))))))))))))))) (c := (Cnd.tst _ false :: Cnd.tst _ false :: Cnd.tst _ false :: Cnd.tst _ false :: Cnd.tst _ false :: Cnd.tst _ true :: Cnd.tst _ true :: Cnd.tst _ true :: Cnd.tst _ true :: Cnd.tst _ false :: Cnd.tst _ false :: Cnd.tst _ false :: Cnd.tst _ true :: Cnd.tst _ true :: Cnd.tst _ true :: Cnd.tst _ true :: Cnd.tst _ true :: Cnd.tst _ true :: Cnd.tst _ true :: Cnd.tst _ true :: Cnd.tst _ true :: Cnd.tst _ true :: Cnd.tst _ false :: Cnd.tst _ false :: Cnd.tst _ false :: Cnd.tst _ false :: Cnd.tst _ false :: Cnd.tst _ false :: Cnd.tst _ false :: Cnd.tst _ false :: Cnd.tst _ false :: Cnd.code ((8, 0), plawL).snd.lsumS.fst ((8, 0), plawL).snd.lsumS.fst :: Cnd.tst _ true :: Cnd.tst _ true :: Cnd.tst _ true :: Cnd.tst _ true :: Cnd.tst _ true :: Cnd.tst _ true :: Cnd.tst _ true :: Cnd.tst _ true :: Cnd.tst _ true :: Cnd.tst _ true :: Cnd.tst _ true :: Cnd.tst _ true :: Cnd.tst _ true :: Cnd.tst _ true :: Cnd.tst _ true :: Cnd.tst _ true :: Cnd.tst _ true :: Cnd.tst _ true :: Cnd.tst _ false :: Cnd.tst _ false :: Cnd.tst _ false :: Cnd.tst _ true :: Cnd.tst _ true :: Cnd.tst _ true :: Cnd.tst _ true :: Cnd.tst _ true :: Cnd.tst _ true :: Cnd.tst _ true :: Cnd.tst _ true :: Cnd.tst _ true :: Cnd.tst _ true :: Cnd.tst _ true :: Cnd.tst _ true :: Cnd.tst _ true :: Cnd.tst _ true :: Cnd.tst _ true :: Cnd.tst _ true :: Cnd.tst _ true :: Cnd.tst _ true :: Cnd.tst _ true :: Cnd.tst _ true :: Cnd.tst _ true :: Cnd.tst _ true :: Cnd.tst _ true :: Cnd.tst _ true :: Cnd.tst _ true :: Cnd.same (AV.slice (some (4, 0)) n none) (AV.slice (some (4, 0)) n none) :: Cnd.same (AV.int IntKind.i64 (Int.ofNat n)) (AV.int IntKind.i64 (Int.ofNat n)) :: Cnd.same (AV.int IntKind.i64 (Int.ofNat n)) (AV.int IntKind.i64 (Int.ofNat n)) :: Cnd.same (AV.bool (ieqB (Int.ofNat n) (Int.ofNat n))) (AV.bool (ieqB (Int.ofNat n) (Int.ofNat n))) :: Cnd.same (AV.bool (ieqB (Int.ofNat n) (Int.ofNat n))) (AV.bool (ieqB (Int.ofNat n) (Int.ofNat n))) :: Cnd.tst _ true :: Cnd.same (AV.slice (some (4, 0)) n none) (AV.slice (some (4, 0)) n none) :: Cnd.tst _ true :: Cnd.same (AV.fsl a1 l1 cs1) (AV.fsl a1 l1 cs1) :: Cnd.same (AV.fsl a1 l1 cs1) (AV.fsl a1 l1 cs1) :: Cnd.tst _ true :: Cnd.tst _ true :: Cnd.tst _ true :: Cnd.same (AV.str ((bytesOf cs1).getD [])) (AV.str ((bytesOf cs1).getD [])) :: Cnd.tst _ true :: Cnd.tst _ true :: Cnd.same (AV.str ((bytesOf cs1).getD [])) (AV.str ((bytesOf cs1).getD [])) :: Cnd.tst _ true :: Cnd.tst _ true :: Cnd.tst _ true :: Cnd.tst _ true :: Cnd.same (AV.str ((bytesOf (rowCut (kept (ofBytes (packB ((n.add 7).div 8) (boolsL (rowCut (kept (ofBools (unB (bytesL cs1) n))) 0 (n * 1)))))) 0 ((n.add 7).div 8))).getD [])) (AV.str ((bytesOf (rowCut (kept (ofBytes (packB ((n.add 7).div 8) (boolsL (rowCut (kept (ofBools (unB (bytesL cs1) n))) 0 (n * 1)))))) 0 ((n.add 7).div 8))).getD [])) :: Cnd.tst _ true :: Cnd.same (AV.bool (bytesEq ((bytesOf (rowCut (kept (ofBytes (packB ((n.add 7).div 8) (boolsL (rowCut (kept (ofBools (unB (bytesL cs1) n))) 0 (n * 1)))))) 0 ((n.add 7).div 8))).getD []) ((bytesOf cs1).getD []))) (AV.bool (bytesEq ((bytesOf (rowCut (kept (ofBytes (packB ((n.add 7).div 8) (boolsL (rowCut (kept (ofBools (unB (bytesL cs1) n))) 0 (n * 1)))))) 0 ((n.add 7).div 8))).getD []) ((bytesOf cs1).getD []))) :: Cnd.tst _ true :: Cnd.same (AV.bool (bytesEq ((bytesOf (rowCut (kept (ofBytes (packB ((n.add 7).div 8) (boolsL (rowCut (kept (ofBools (unB (bytesL cs1) n))) 0 (n * 1)))))) 0 ((n.add 7).div 8))).getD []) ((bytesOf cs1).getD []))) (AV.bool (bytesEq ((bytesOf (rowCut (kept (ofBytes (packB ((n.add 7).div 8) (boolsL (rowCut (kept (ofBools (unB (bytesL cs1) n))) 0 (n * 1)))))) 0 ((n.add 7).div 8))).getD []) ((bytesOf cs1).getD []))) :: Cnd.same (AV.bool (bytesEq ((bytesOf (rowCut (kept (ofBytes (packB ((n.add 7).div 8) (boolsL (rowCut (kept (ofBools (unB (bytesL cs1) n))) 0 (n * 1)))))) 0 ((n.add 7).div 8))).getD []) ((bytesOf cs1).getD []))) (AV.bool (bytesEq ((bytesOf (rowCut (kept (ofBytes (packB ((n.add 7).div 8) (boolsL (rowCut (kept (ofBools (unB (bytesL cs1) n))) 0 (n * 1)))))) 0 ((n.add 7).div 8))).getD []) ((bytesOf cs1).getD []))) :: [])) (by kernel_rfl) ⟨h0, h0, h0, h0, h1, h2, h3, h4, h5, h6, h7, h8, h9, h10, h11, h12, h13, h14, h15, h16, h17, h9, h18, h18, h18, h18, h18, h18, h18, h18, h7, rfl, h19, h11, h2, h20, h3, h4, h21, h22, h23, h23, h23, h16, h5, h17, h24, h25, h26, h27, h28, h29, h30, h31, h20, h21, h22, h32, h33, h34, h35, h31, h36, h36, h36, h22, h37, h36, h38, h39, h40, h41, h42, h36, h43, h44, h36, h36, rfl, rfl, rfl, rfl, rfl, h36, rfl, h36, rfl, rfl, h36, h22, h37, rfl, h22, h37, rfl, h36, h36, h43, h44, rfl, h36, rfl, h36, rfl, rfl, trivial⟩
theorem wp_no (a0 : Bool) (l0 : Nat) (cs0 : List AV) (a1 : Bool) (l1 : Nat) (cs1 : List AV) (n : Nat) (h0 : (iltB (Int.ofNat 200) (Int.ofNat l0)) = false) (h1 : (iltB (Int.ofNat 40) (Int.ofNat l1)) = false) (h2 : (AV.plainL cs0) = true) (h3 : (isBoolL cs0) = true) (h4 : (cs0.length.beq l0) = true) (h5 : (l0.ble 1000) = true) (h6 : (iltB (wrapA IntKind.i64 ((Int.ofNat 8).mul (Int.ofNat ((l0.add 7).div 8)))) (Int.ofNat l0)) = false) (h7 : (!ieqB (Int.ofNat ((l0.add 7).div 8)) (wrapA IntKind.i64 ((wrapA IntKind.i64 ((Int.ofNat l0).add (Int.ofNat 7))).tdiv (Int.ofNat 8)))) = false) (h8 : (ieqB (Int.ofNat l0) (Int.ofNat 0)) = false) (h9 : (kept (tightB (bytesL (rowCut (kept (ofBytes (packB ((l0.add 7).div 8) (boolsL cs0)))) 0 ((l0.add 7).div 8 * 1))) l0)) = true) (h10 : ((0 + (l0.add 7).div 8 * 1).ble ((l0.add 7).div 8)) = true) (h11 : (AV.plainL (kept (ofBytes (packB ((l0.add 7).div 8) (boolsL cs0))))) = true) (h12 : (u8L (rowCut (kept (ofBytes (packB ((l0.add 7).div 8) (boolsL cs0)))) 0 ((l0.add 7).div 8 * 1))) = true) (h13 : ((rowCut (kept (ofBytes (packB ((l0.add 7).div 8) (boolsL cs0)))) 0 ((l0.add 7).div 8 * 1)).length.beq ((l0.add 7).div 8)) = true) (h14 : (((l0.add 7).div 8).ble 125) = true) (h15 : (Nat.ble 1 l0) = true) (h16 : (((l0.add 7).div 8).beq ((l0.add 7).div 8)) = true) (h17 : (l0.ble (Nat.mul 8 ((l0.add 7).div 8))) = true) (h18 : (!ieqB (Int.ofNat l0) (Int.ofNat l0)) = false) (h19 : (AV.plainL (kept (ofBools (unB (bytesL (rowCut (kept (ofBytes (packB ((l0.add 7).div 8) (boolsL cs0)))) 0 ((l0.add 7).div 8 * 1))) l0)))) = true) (h20 : (AV.plainL cs1) = true) (h21 : (u8L cs1) = true) (h22 : (cs1.length.beq l1) = true) (h23 : (l0.beq l0) = true) (h24 : (isBoolL (kept (ofBools (unB (bytesL (rowCut (kept (ofBytes (packB ((l0.add 7).div 8) (boolsL cs0)))) 0 ((l0.add 7).div 8 * 1))) l0)))) = true) (h25 : (kept (boolsEq (boolsL (kept (ofBools (unB (bytesL (rowCut (kept (ofBytes (packB ((l0.add 7).div 8) (boolsL cs0)))) 0 ((l0.add 7).div 8 * 1))) l0)))) (boolsL cs0))) = true) (h26 : (u8L (kept (ofBytes (packB ((l0.add 7).div 8) (boolsL cs0))))) = true) (h27 : (kept (bytesEq (bytesL (kept (ofBytes (packB ((l0.add 7).div 8) (boolsL cs0))))) (packB ((l0.add 7).div 8) (boolsL cs0)))) = true) (h28 : (iltB (wrapA IntKind.i64 ((Int.ofNat 8).mul (Int.ofNat l1))) (Int.ofNat n)) = false) (h29 : (!ieqB (Int.ofNat l1) (wrapA IntKind.i64 ((wrapA IntKind.i64 ((Int.ofNat n).add (Int.ofNat 7))).tdiv (Int.ofNat 8)))) = false) (h30 : (ieqB (Int.ofNat n) (Int.ofNat 0)) = false) (h31 : (kept (tightB (bytesL cs1) n)) = false) (h32 : (l1.ble 125) = true) (h33 : (Nat.ble 1 n) = true) (h34 : (l1.beq ((n.add 7).div 8)) = true) (h35 : (n.ble (Nat.mul 8 l1)) = true) (h36 : (kept !tightB (bytesL cs1) n) = true) (h37 : (!ieqB (wrapA IntKind.i64 ((wrapA IntKind.i64 ((Int.ofNat n).add (Int.ofNat 7))).tdiv (Int.ofNat 8))) (Int.ofNat l1)) = false) (h38 : (l1.ble 1000) = true) (h39 : (n.beq n) = true) :
    ∃ h', aCall C5 60 (Tgt.fn 8) [AV.fsl a0 l0 cs0, AV.fsl a1 l1 cs1, AV.int IntKind.i64 (Int.ofNat n)] H0 = some (AV.bool true, h') ∧ [].map h'.get = [] :=
  call_runT (q := (oc 4 (.z :: (.z :: (.z :: (.z :: (.z :: (.y :: (.y :: (.y :: (.y :: (oc 1 (.z :: (.z :: (.z :: (.y :: (.y :: (.y :: (.y :: (.y :: (.y :: (.y :: (.y :: (.y :: (.y :: (oc 6 (.z :: (.z :: (.z :: (.z :: (.z :: (.z :: (oc 1 (.z :: (.z :: (.z :: (oc 2 (.y :: (oc 1 (.y :: (.y :: (.y :: (.y :: (.y :: (.y :: (.y :: (.y :: (.y :: (.y :: (.y :: (.y :: (.y :: (.y :: (.y :: (.y :: (.y :: (oc 1 (.z :: (.z :: (.z :: (.z :: (.y :: (.y :: (.y :: (.y :: (.y :: (.y :: (.y :: (.y :: (oc 12 (.z :: (.z :: (.z :: (oc 1 (.z :: (.z :: (.z :: (oc 1 (.z :: (oc 1 (.z :: (.z :: (.z :: (oc 1 (.y :: (.y :: (.y :: (.y :: (.y :: (.y :: (oc 1 (.z :: (oc 1 []))))))))))))))))))))))))))))))))))))))))))))))))))))))))))))))))))))))))))))))))))))))))))))) (c := (Cnd.tst _ false :: Cnd.tst _ false :: Cnd.tst _ false :: Cnd.tst _ false :: Cnd.tst _ false :: Cnd.tst _ true :: Cnd.tst _ true :: Cnd.tst _ true :: Cnd.tst _ true :: Cnd.tst _ false :: Cnd.tst _ false :: Cnd.tst _ false :: Cnd.tst _ true :: Cnd.tst _ true :: Cnd.tst _ true :: Cnd.tst _ true :: Cnd.tst _ true :: Cnd.tst _ true :: Cnd.tst _ true :: Cnd.tst _ true :: Cnd.tst _ true :: Cnd.tst _ true :: Cnd.tst _ false :: Cnd.tst _ false :: Cnd.tst _ false :: Cnd.tst _ false :: Cnd.tst _ false :: Cnd.tst _ false :: Cnd.tst _ false :: Cnd.tst _ false :: Cnd.tst _ false :: Cnd.code ((8, 0), plawL).snd.lsumS.fst ((8, 0), plawL).snd.lsumS.fst :: Cnd.tst _ true :: Cnd.tst _ true :: Cnd.tst _ true :: Cnd.tst _ true :: Cnd.tst _ true :: Cnd.tst _ true :: Cnd.tst _ true :: Cnd.tst _ true :: Cnd.tst _ true :: Cnd.tst _ true :: Cnd.tst _ true :: Cnd.tst _ true :: Cnd.tst _ true :: Cnd.tst _ true :: Cnd.tst _ true :: Cnd.tst _ true :: Cnd.tst _ true :: Cnd.tst _ true :: Cnd.tst _ false :: Cnd.tst _ false :: Cnd.tst _ false :: Cnd.tst _ false :: Cnd.tst _ true :: Cnd.tst _ true :: Cnd.tst _ true :: Cnd.tst _ true :: Cnd.tst _ true :: Cnd.tst _ true :: Cnd.tst _ true :: Cnd.tst _ true :: Cnd.tst _ false :: Cnd.tst _ false :: Cnd.tst _ false :: Cnd.tst _ false :: Cnd.tst _ false :: Cnd.tst _ false :: Cnd.tst _ false :: Cnd.tst _ false :: Cnd.tst _ false :: Cnd.tst _ false :: Cnd.code ((35, 0), looL).snd.lsumS.fst ((35, 0), looL).snd.lsumS.fst :: Cnd.tst _ true :: Cnd.tst _ true :: Cnd.tst _ true :: Cnd.tst _ true :: Cnd.tst _ true :: Cnd.tst _ true :: Cnd.tst _ false :: [])) (by kernel_rfl) ⟨h0, h0, h0, h0, h1, h2, h3, h4, h5, h6, h7, h8, h9, h10, h11, h12, h13, h14, h15, h16, h17, h9, h18, h18, h18, h18, h18, h18, h18, h18, h7, rfl, h19, h11, h2, h20, h3, h4, h21, h22, h23, h23, h23, h16, h5, h17, h24, h25, h26, h27, h28, h29, h30, h31, h20, h21, h22, h32, h33, h34, h35, h36, h28, h28, h28, h28, h28, h28, h28, h37, h37, h37, rfl, h20, h21, h22, h38, h39, h36, h37, trivial⟩
theorem wp_b1e (a0 : Bool) (a1 : Bool) (l1 : Nat) (cs1 : List AV) (n : Int) (h0 : (iltB (Int.ofNat 40) (Int.ofNat l1)) = false) (h1 : (AV.plainL (kept (ofBytes (packB 0 (boolsL []))))) = true) (h2 : (iltB n (Int.ofNat 0)) = true) (h3 : (AV.plainL cs1) = true) :
    ∃ h', aCall C5e 60 (Tgt.fn 8) [AV.fsl a0 0 [], AV.fsl a1 l1 cs1, AV.int IntKind.i64 n] H0 = some (AV.bool true, h') ∧ [].map h'.get = [] :=
  call_runT (q := (oc 8 (.z :: (oc 9 (.y :: (oc 21 (.y :: (.y :: (.y :: (oc 4 (.y :: (.y :: (.y :: (.y :: (.y :: (oc 1 (.y :: (oc 16 [])))))))))))))))))) (c := (Cnd.tst _ false :: Cnd.tst _ true :: Cnd.tst _ true :: Cnd.tst _ true :: Cnd.tst _ true :: Cnd.tst _ true :: Cnd.tst _ true :: Cnd.tst _ true :: Cnd.tst _ true :: Cnd.tst _ true :: Cnd.tst _ true :: [])) (by kernel_rfl) ⟨h0, h1, h2, h3, h2, h2, h2, h2, h2, h2, h2, trivial⟩
theorem wp_b2e (a0 : Bool) (a1 : Bool) (l1 : Nat) (cs1 : List AV) (n : Nat) (h0 : (iltB (Int.ofNat 40) (Int.ofNat l1)) = false) (h1 : (AV.plainL (kept (ofBytes (packB 0 (boolsL []))))) = true) (h2 : (iltB (wrapA IntKind.i64 ((Int.ofNat 8).mul (Int.ofNat l1))) (Int.ofNat n)) = true) (h3 : (AV.plainL cs1) = true) :
    ∃ h', aCall C5e 60 (Tgt.fn 8) [AV.fsl a0 0 [], AV.fsl a1 l1 cs1, AV.int IntKind.i64 (Int.ofNat n)] H0 = some (AV.bool true, h') ∧ [].map h'.get = [] :=
  call_runT (q := (oc 8 (.z :: (oc 9 (.y :: (oc 22 (.y :: (.y :: (oc 1 (.y :: (oc 12 (.y :: (.y :: (.y :: (.y :: (.y :: (.y :: (oc 1 (.y :: (oc 7 [])))))))))))))))))))) (c := (Cnd.tst _ false :: Cnd.tst _ true :: Cnd.tst _ true :: Cnd.tst _ true :: Cnd.tst _ true :: Cnd.tst _ true :: Cnd.tst _ true :: Cnd.tst _ true :: Cnd.tst _ true :: Cnd.tst _ true :: Cnd.tst _ true :: Cnd.tst _ true :: [])) (by kernel_rfl) ⟨h0, h1, h2, h3, h2, h2, h2, h2, h2, h2, h2, h2, trivial⟩
theorem wp_b3e (a0 : Bool) (a1 : Bool) (l1 : Nat) (cs1 : List AV) (n : Nat) (h0 : (iltB (Int.ofNat 40) (Int.ofNat l1)) = false) (h1 : (AV.plainL (kept (ofBytes (packB 0 (boolsL []))))) = true) (h2 : (iltB (wrapA IntKind.i64 ((Int.ofNat 8).mul (Int.ofNat l1))) (Int.ofNat n)) = false) (h3 : (!ieqB (Int.ofNat l1) (wrapA IntKind.i64 ((wrapA IntKind.i64 ((Int.ofNat n).add (Int.ofNat 7))).tdiv (Int.ofNat 8)))) = true) (h4 : (AV.plainL cs1) = true) (h5 : (!iltB (wrapA IntKind.i64 ((Int.ofNat 8).mul (Int.ofNat l1))) (Int.ofNat n)) = true) (h6 : (!ieqB (wrapA IntKind.i64 ((wrapA IntKind.i64 ((Int.ofNat n).add (Int.ofNat 7))).tdiv (Int.ofNat 8))) (Int.ofNat l1)) = true) :
    ∃ h', aCall C5e 60 (Tgt.fn 8) [AV.fsl a0 0 [], AV.fsl a1 l1 cs1, AV.int IntKind.i64 (Int.ofNat n)] H0 = some (AV.bool true, h') ∧ [].map h'.get = [] :=
  call_runT (q := (oc 8 (.z :: (oc 9 (.y :: (oc 22 (.z :: (.y :: (.y :: (oc 1 (.y :: (.y :: (oc 12 (.z :: (.z :: (.z :: (oc 1 (.z :: (.z :: (.z :: (oc 1 (.z :: (oc 1 (.y :: (.y :: (.y :: (oc 1 (.y :: (oc 1 []))))))))))))))))))))))))))))) (c := (Cnd.tst _ false :: Cnd.tst _ true :: Cnd.tst _ false :: Cnd.tst _ true :: Cnd.tst _ true :: Cnd.tst _ true :: Cnd.tst _ true :: Cnd.tst _ false :: Cnd.tst _ false :: Cnd.tst _ false :: Cnd.tst _ false :: Cnd.tst _ false :: Cnd.tst _ false :: Cnd.tst _ false :: Cnd.tst _ true :: Cnd.tst _ true :: Cnd.tst _ true :: Cnd.tst _ true :: [])) (by kernel_rfl) ⟨h0, h1, h2, h3, h4, h5, h3, h2, h2, h2, h2, h2, h2, h2, h6, h6, h6, h6, trivial⟩
theorem wp_ze (a0 : Bool) (a1 : Bool) (l1 : Nat) (cs1 : List AV) (n : Nat) (h0 : (iltB (Int.ofNat 40) (Int.ofNat l1)) = false) (h1 : (AV.plainL (kept (ofBytes (packB 0 (boolsL []))))) = true) (h2 : (iltB (wrapA IntKind.i64 ((Int.ofNat 8).mul (Int.ofNat l1))) (Int.ofNat n)) = false) (h3 : (!ieqB (Int.ofNat l1) (wrapA IntKind.i64 ((wrapA IntKind.i64 ((Int.ofNat n).add (Int.ofNat 7))).tdiv (Int.ofNat 8)))) = false) (h4 : (ieqB (Int.ofNat n) (Int.ofNat 0)) = true) (h5 : (AV.plainL cs1) = true) (h6 : (!iltB (wrapA IntKind.i64 ((Int.ofNat 8).mul (Int.ofNat l1))) (Int.ofNat n)) = true) (h7 : (ieqB (Int.ofNat l1) (wrapA IntKind.i64 ((wrapA IntKind.i64 ((Int.ofNat n).add (Int.ofNat 7))).tdiv (Int.ofNat 8)))) = true) (h8 : (!iltB (Int.ofNat 0) (wrapA IntKind.i64 ((Int.ofNat 8).mul (Int.ofNat l1)))) = true) (h9 : (ieqB (Int.ofNat 0) (Int.ofNat n)) = true) (h10 : (cs1.length.beq l1) = true) (h11 : ((bytesOf cs1).isSome) = true) :
    ∃ h', aCall C5e 60 (Tgt.fn 8) [AV.fsl a0 0 [], AV.fsl a1 l1 cs1, AV.int IntKind.i64 (Int.ofNat n)] H0 = some (AV.bool (bytesEq [] ((bytesOf cs1).getD [])), h') ∧ [].map h'.get = [] :=
  call_runT (q := (oc 8 (.z :: (oc 9 (.y :: (oc 22 (.z :: (.z :: (.y :: (.y :: (oc 1 (.y :: (.y :: (.y :: (oc 1 (.y :: (.y :: (.y :: (.y :: (.y :: (.y :: (oc 3 (.y :: (oc 2 (.y :: (.y :: (oc 2 (.y :: (.y :: (.y :: (.y :: (oc 1 (.y :: (.y :: (.y :: (.y :: (.y :: (.y :: (.y :: (.y :: (.y :: (.y :: (.y :: (.y :: (oc 3 (.y :: (.y :: (.y :: (.y :: (.y :: [])))))))))))))))))))))))))))))))))))))))))))))))))) (c := (Cnd.tst _ false :: Cnd.tst _ true :: Cnd.tst _ false :: Cnd.tst _ false :: Cnd.tst _ true :: Cnd.tst _ true :: Cnd.tst _ true :: Cnd.tst _ true :: Cnd.tst _ true :: Cnd.tst _ true :: Cnd.tst _ true :: Cnd.tst _ true :: Cnd.tst _ true :: Cnd.tst _ true :: Cnd.tst _ true :: Cnd.tst _ true :: Cnd.tst _ true :: Cnd.tst _ true :: Cnd.same (AV.int IntKind.i64 (Int.ofNat n)) (AV.int IntKind.i64 (Int.ofNat n)) :: Cnd.same (AV.bool (ieqB (Int.ofNat 0) (Int.ofNat n))) (AV.bool (ieqB (Int.ofNat 0) (Int.ofNat n))) :: Cnd.same (AV.bool (ieqB (Int.ofNat 0) (Int.ofNat n))) (AV.bool (ieqB (Int.ofNat 0) (Int.ofNat n))) :: Cnd.tst _ true :: Cnd.tst _ true :: Cnd.same (AV.fsl a1 l1 cs1) (AV.fsl a1 l1 cs1) :: Cnd.same (AV.fsl a1 l1 cs1) (AV.fsl a1 l1 cs1) :: Cnd.tst _ true :: Cnd.tst _ true :: Cnd.tst _ true :: Cnd.same (AV.str ((bytesOf cs1).getD [])) (AV.str ((bytesOf cs1).getD [])) :: Cnd.tst _ true :: Cnd.tst _ true :: Cnd.same (AV.str ((bytesOf cs1).getD [])) (AV.str ((bytesOf cs1).getD [])) :: Cnd.tst _ true :: Cnd.tst _ true :: Cnd.tst _ true :: Cnd.same (AV.bool (bytesEq [] ((bytesOf cs1).getD []))) (AV.bool (bytesEq [] ((bytesOf cs1).getD []))) :: Cnd.tst _ true :: Cnd.same (AV.bool (bytesEq [] ((bytesOf cs1).getD []))) (AV.bool (bytesEq [] ((bytesOf cs1).getD []))) :: Cnd.same (AV.bool (bytesEq [] ((bytesOf cs1).getD []))) (AV.bool (bytesEq [] ((bytesOf cs1).getD []))) :: [])) (by kernel_rfl) ⟨h0, h1, h2, h3, h4, h5, h6, h7, h8, h9, h9, h9, h10, h11, h9, h9, h9, h9, rfl, rfl, rfl, h9, h9, rfl, rfl, h9, h10, h11, rfl, h10, h11, rfl, h9, h9, h9, rfl, h9, rfl, rfl, trivial⟩
theorem wp_oke (a0 : Bool) (a1 : Bool) (l1 : Nat) (cs1 : List AV) (n : Nat) (h0 : (iltB (Int.ofNat 40) (Int.ofNat l1)) = false) (h1 : (AV.plainL (kept (ofBytes (packB 0 (boolsL []))))) = true) (h2 : (iltB (wrapA IntKind.i64 ((Int.ofNat 8).mul (Int.ofNat l1))) (Int.ofNat n)) = false) (h3 : (!ieqB (Int.ofNat l1) (wrapA IntKind.i64 ((wrapA IntKind.i64 ((Int.ofNat n).add (Int.ofNat 7))).tdiv (Int.ofNat 8)))) = false) (h4 : (ieqB (Int.ofNat n) (Int.ofNat 0)) = false) (h5 : (kept (tightB (bytesL cs1) n)) = true) (h6 : (AV.plainL cs1) = true) (h7 : (u8L cs1) = true) (h8 : (cs1.length.beq l1) = true) (h9 : (l1.ble 125) = true) (h10 : (Nat.ble 1 n) = true) (h11 : (l1.beq ((n.add 7).div 8)) = true) (h12 : (n.ble (Nat.mul 8 l1)) = true) (h13 : (ieqB (Int.ofNat n) (Int.ofNat n)) = true) (h14 : ((bytesOf cs1).isSome) = true) (h15 : ((0 + n * 1).ble n) = true) (h16 : (AV.plainL (kept (ofBools (unB (bytesL cs1) n)))) = true) (h17 : (isBoolL (rowCut (kept (ofBools (unB (bytesL cs1) n))) 0 (n * 1))) = true) (h18 : ((rowCut (kept (ofBools (unB (bytesL cs1) n))) 0 (n * 1)).length.beq n) = true) (h19 : (n.ble 1000) = true) (h20 : ((0 + (n.add 7).div 8).ble ((n.add 7).div 8)) = true) (h21 : ((bytesOf (rowCut (kept (ofBytes (packB ((n.add 7).div 8) (boolsL (rowCut (kept (ofBools (unB (bytesL cs1) n))) 0 (n * 1)))))) 0 ((n.add 7).div 8))).isSome) = true) :
    ∃ h', aCall C5e 60 (Tgt.fn 8) [AV.fsl a0 0 [], AV.fsl a1 l1 cs1, AV.int IntKind.i64 (Int.ofNat n)] H0 = some (AV.bool (bytesEq ((bytesOf (rowCut (kept (ofBytes (packB ((n.add 7).div 8) (boolsL (rowCut (kept (ofBools (unB (bytesL cs1) n))) 0 (n * 1)))))) 0 ((n.add 7).div 8))).getD []) ((bytesOf cs1).getD [])), h') ∧ [].map h'.get = [] :=
  call_runT (q := (oc 8 (.z :: (oc 9 (.y :: (oc 22 (.z :: (.z :: (.z :: (.y :: (.y :: (.y :: (.y :: (.y :: (.y :: (.y :: (.y :: (.y :: (oc 1 (.y :: (.y :: (.y :: (.y :: (.y :: (.y :: (.y :: (.y :: (.y :: (.y :: (.y :: (.y :: (.y :: (.y :: (.y :: (.y :: (.y :: (.y :: (.y :: (.y :: (.y :: (.y :: (.y :: (.y :: (.y :: (.y :: (.y :: (.y :: (.y :: (.y :: (.y :: (.y :: (.y :: (.y :: (.y :: (.y :: (.y :: (.y :: (.y :: (.y :: (.y :: (.y :: (.y :: [])))))))))))))))))))))))))))))))))))))))))))))))))))))))))))))) (c := (Cnd.tst _ false :: Cnd.tst _ true :: Cnd.tst _ false :: Cnd.tst _ false :: Cnd.tst _ false :: Cnd.tst _ true :: Cnd.tst _ true :: Cnd.tst _ true :: Cnd.tst _ true :: Cnd.tst _ true :: Cnd.tst _ true :: Cnd.tst _ true :: Cnd.tst _ true :: Cnd.tst _ true :: Cnd.tst _ true :: Cnd.tst _ true :: Cnd.tst _ true :: Cnd.tst _ true :: Cnd.tst _ true :: Cnd.tst _ true :: Cnd.tst _ true :: Cnd.tst _ true :: Cnd.tst _ true :: Cnd.tst _ true :: Cnd.tst _ true :: Cnd.tst _ true :: Cnd.tst _ true :: Cnd.tst _ true :: Cnd.tst _ true :: Cnd.tst _ true :: Cnd.same (AV.slice (some (1, 0)) n none) (AV.slice (some (1, 0)) n none) :: Cnd.same (AV.int IntKind.i64 (Int.ofNat n)) (AV.int IntKind.i64 (Int.ofNat n)) :: Cnd.same (AV.int IntKind.i64 (Int.ofNat n)) (AV.int IntKind.i64 (Int.ofNat n)) :: Cnd.same (AV.bool (ieqB (Int.ofNat n) (Int.ofNat n))) (AV.bool (ieqB (Int.ofNat n) (Int.ofNat n))) :: Cnd.same (AV.bool (ieqB (Int.ofNat n) (Int.ofNat n))) (AV.bool (ieqB (Int.ofNat n) (Int.ofNat n))) :: Cnd.tst _ true :: Cnd.same (AV.slice (some (1, 0)) n none) (AV.slice (some (1, 0)) n none) :: Cnd.tst _ true :: Cnd.same (AV.fsl a1 l1 cs1) (AV.fsl a1 l1 cs1) :: Cnd.same (AV.fsl a1 l1 cs1) (AV.fsl a1 l1 cs1) :: Cnd.tst _ true :: Cnd.tst _ true :: Cnd.tst _ true :: Cnd.same (AV.str ((bytesOf cs1).getD [])) (AV.str ((bytesOf cs1).getD [])) :: Cnd.tst _ true :: Cnd.tst _ true :: Cnd.same (AV.str ((bytesOf cs1).getD [])) (AV.str ((bytesOf cs1).getD [])) :: Cnd.tst _ true :: Cnd.tst _ true :: Cnd.tst _ true :: Cnd.tst _ true :: Cnd.same (AV.str ((bytesOf (rowCut (kept (ofBytes (packB ((n.add 7).div 8) (boolsL (rowCut (kept (ofBools (unB (bytesL cs1) n))) 0 (n * 1)))))) 0 ((n.add 7).div 8))).getD [])) (AV.str ((bytesOf (rowCut (kept (ofBytes (packB ((n.add 7).div 8) (boolsL (rowCut (kept (ofBools (unB (bytesL cs1) n))) 0 (n * 1)))))) 0 ((n.add 7).div 8))).getD [])) :: Cnd.tst _ true :: Cnd.same (AV.bool (bytesEq ((bytesOf (rowCut (kept (ofBytes (packB ((n.add 7).div 8) (boolsL (rowCut (kept (ofBools (unB (bytesL cs1) n))) 0 (n * 1)))))) 0 ((n.add 7).div 8))).getD []) ((bytesOf cs1).getD []))) (AV.bool (bytesEq ((bytesOf (rowCut (kept (ofBytes (packB ((n.add 7).div 8) (boolsL (rowCut (kept (ofBools (unB (bytesL cs1) n))) 0 (n * 1)))))) 0 ((n.add 7).div 8))).getD []) ((bytesOf cs1).getD []))) :: Cnd.tst _ true :: Cnd.same (AV.bool (bytesEq ((bytesOf (rowCut (kept (ofBytes (packB ((n.add 7).div 8) (boolsL (rowCut (kept (ofBools (unB (bytesL cs1) n))) 0 (n * 1)))))) 0 ((n.add 7).div 8))).getD []) ((bytesOf cs1).getD []))) (AV.bool (bytesEq ((bytesOf (rowCut (kept (ofBytes (packB ((n.add 7).div 8) (boolsL (rowCut (kept (ofBools (unB (bytesL cs1) n))) 0 (n * 1)))))) 0 ((n.add 7).div 8))).getD []) ((bytesOf cs1).getD []))) :: Cnd.same (AV.bool (bytesEq ((bytesOf (rowCut (kept (ofBytes (packB ((n.add 7).div 8) (boolsL (rowCut (kept (ofBools (unB (bytesL cs1) n))) 0 (n * 1)))))) 0 ((n.add 7).div 8))).getD []) ((bytesOf cs1).getD []))) (AV.bool (bytesEq ((bytesOf (rowCut (kept (ofBytes (packB ((n.add 7).div 8) (boolsL (rowCut (kept (ofBools (unB (bytesL cs1) n))) 0 (n * 1)))))) 0 ((n.add 7).div 8))).getD []) ((bytesOf cs1).getD []))) :: [])) (by kernel_rfl) ⟨h0, h1, h2, h3, h4, h5, h6, h7, h8, h9, h10, h11, h12, h5, h13, h13, h13, h8, h14, h13, h15, h16, h17, h18, h19, h13, h20, h21, h13, h13, rfl, rfl, rfl, rfl, rfl, h13, rfl, h13, rfl, rfl, h13, h8, h14, rfl, h8, h14, rfl, h13, h13, h20, h21, rfl, h13, rfl, h13, rfl, rfl, trivial⟩
theorem wp_noe (a0 : Bool) (a1 : Bool) (l1 : Nat) (cs1 : List AV) (n : Nat) (h0 : (iltB (Int.ofNat 40) (Int.ofNat l1)) = false) (h1 : (AV.plainL (kept (ofBytes (packB 0 (boolsL []))))) = true) (h2 : (iltB (wrapA IntKind.i64 ((Int.ofNat 8).mul (Int.ofNat l1))) (Int.ofNat n)) = false) (h3 : (!ieqB (Int.ofNat l1) (wrapA IntKind.i64 ((wrapA IntKind.i64 ((Int.ofNat n).add (Int.ofNat 7))).tdiv (Int.ofNat 8)))) = false) (h4 : (ieqB (Int.ofNat n) (Int.ofNat 0)) = false) (h5 : (kept (tightB (bytesL cs1) n)) = false) (h6 : (AV.plainL cs1) = true) (h7 : (u8L cs1) = true) (h8 : (cs1.length.beq l1) = true) (h9 : (l1.ble 125) = true) (h10 : (Nat.ble 1 n) = true) (h11 : (l1.beq ((n.add 7).div 8)) = true) (h12 : (n.ble (Nat.mul 8 l1)) = true) (h13 : (kept !tightB (bytesL cs1) n) = true) (h14 : (!ieqB (wrapA IntKind.i64 ((wrapA IntKind.i64 ((Int.ofNat n).add (Int.ofNat 7))).tdiv (Int.ofNat 8))) (Int.ofNat l1)) = false) (h15 : (l1.ble 1000) = true) (h16 : (n.beq n) = true) :
    ∃ h', aCall C5e 60 (Tgt.fn 8) [AV.fsl a0 0 [], AV.fsl a1 l1 cs1, AV.int IntKind.i64 (Int.ofNat n)] H0 = some (AV.bool true, h') ∧ [].map h'.get = [] :=
  call_runT (q := (oc 8 (.z :: (oc 9 (.y :: (oc 22 (.z :: (.z :: (.z :: (.z :: (.y :: (.y :: (.y :: (.y :: (.y :: (.y :: (.y :: (.y :: (oc 12 (.z :: (.z :: (.z :: (oc 1 (.z :: (.z :: (.z :: (oc 1 (.z :: (oc 1 (.z :: (.z :: (.z :: (oc 1 (.y :: (.y :: (.y :: (.y :: (.y :: (.y :: (oc 1 (.z :: (oc 1 [])))))))))))))))))))))))))))))))))))))))))) (c := (Cnd.tst _ false :: Cnd.tst _ true :: Cnd.tst _ false :: Cnd.tst _ false :: Cnd.tst _ false :: Cnd.tst _ false :: Cnd.tst _ true :: Cnd.tst _ true :: Cnd.tst _ true :: Cnd.tst _ true :: Cnd.tst _ true :: Cnd.tst _ true :: Cnd.tst _ true :: Cnd.tst _ true :: Cnd.tst _ false :: Cnd.tst _ false :: Cnd.tst _ false :: Cnd.tst _ false :: Cnd.tst _ false :: Cnd.tst _ false :: Cnd.tst _ false :: Cnd.tst _ false :: Cnd.tst _ false :: Cnd.tst _ false :: Cnd.code ((35, 0), looL).snd.lsumS.fst ((35, 0), looL).snd.lsumS.fst :: Cnd.tst _ true :: Cnd.tst _ true :: Cnd.tst _ true :: Cnd.tst _ true :: Cnd.tst _ true :: Cnd.tst _ true :: Cnd.tst _ false :: [])) (by kernel_rfl) ⟨h0, h1, h2, h3, h4, h5, h6, h7, h8, h9, h10, h11, h12, h13, h2, h2, h2, h2, h2, h2, h2, h14, h14, h14, rfl, h6, h7, h8, h15, h16, h13, h14, trivial⟩
theorem wp_long (a0 : Bool) (l0 : Nat) (cs0 : List AV) (a1 : Bool) (l1 : Nat) (cs1 : List AV) (n : Int) (h0 : (iltB (Int.ofNat 200) (Int.ofNat l0)) = true) :
    ∃ h', aCall C5 60 (Tgt.fn 8) [AV.fsl a0 l0 cs0, AV.fsl a1 l1 cs1, AV.int IntKind.i64 n] H0 = some (AV.bool true, h') ∧ [].map h'.get = [] :=
  call_runT (q := (oc 4 (.y :: (.y :: (.y :: (.y :: (oc 1 []))))))) (c := (Cnd.tst _ true :: Cnd.tst _ true :: Cnd.tst _ true :: Cnd.tst _ true :: [])) (by kernel_rfl) ⟨h0, h0, h0, h0, trivial⟩
theorem wp_long2 (a0 : Bool) (l0 : Nat) (cs0 : List AV) (a1 : Bool) (l1 : Nat) (cs1 : List AV) (n : Int) (h0 : (iltB (Int.ofNat 200) (Int.ofNat l0)) = false) (h1 : (iltB (Int.ofNat 40) (Int.ofNat l1)) = true) :
    ∃ h', aCall C5 60 (Tgt.fn 8) [AV.fsl a0 l0 cs0, AV.fsl a1 l1 cs1, AV.int IntKind.i64 n] H0 = some (AV.bool true, h') ∧ [].map h'.get = [] :=
  call_runT (q := (oc 4 (.z :: (.z :: (.z :: (.z :: (.y :: []))))))) (c := (Cnd.tst _ false :: Cnd.tst _ false :: Cnd.tst _ false :: Cnd.tst _ false :: Cnd.tst _ true :: [])) (by kernel_rfl) ⟨h0, h0, h0, h0, h1, trivial⟩
theorem packs_run (a0 a1 : Bool) (l : List Bool) (b : List UInt8) (n : Int) :
    (∃ h', aCall C5 60 (Tgt.fn 8) [AV.fsl a0 l.length (ofBools l), AV.fsl a1 b.length (ofBytes b), AV.int IntKind.i64 n] H0 = some (AV.bool true, h')) ∨
    (∃ h', aCall C5e 60 (Tgt.fn 8) [AV.fsl a0 l.length (ofBools l), AV.fsl a1 b.length (ofBytes b), AV.int IntKind.i64 n] H0 = some (AV.bool true, h')) := by
  by_cases hl : l.length ≤ 200
  case neg =>
    left
    obtain ⟨h', h, _⟩ := wp_long a0 l.length (ofBools l) a1 b.length (ofBytes b) n (by rw [iltB_eq]; exact decide_eq_true (by show ((200 : Nat) : Int) < (l.length : Int); omega))
    exact ⟨h', h⟩
  by_cases hb : b.length ≤ 40
  case neg =>
    left
    obtain ⟨h', h, _⟩ := wp_long2 a0 l.length (ofBools l) a1 b.length (ofBytes b) n (by rw [iltB_eq]; exact decide_eq_false (by show ¬ ((200 : Nat) : Int) < (l.length : Int); omega)) (by rw [iltB_eq]; exact decide_eq_true (by show ((40 : Nat) : Int) < (b.length : Int); omega))
    exact ⟨h', h⟩
  have mb : wrapA IntKind.i64 ((Int.ofNat 8).mul (Int.ofNat b.length)) = ((8 * b.length : Nat) : Int) := mul8 b.length (by omega)
  have hK : (l.length.add 7).div 8 = (l.length + 7) / 8 := rfl
  have hN : ∀ n : Nat, (n.add 7).div 8 = (n + 7) / 8 := fun _ => rfl
  have hM : ∀ n : Nat, Nat.mul 8 n = 8 * n := fun _ => rfl
  have mK : wrapA IntKind.i64 ((Int.ofNat 8).mul (Int.ofNat ((l.length + 7) / 8))) = ((8 * ((l.length + 7) / 8) : Nat) : Int) := mul8 _ (by omega)
  have pl : wrapA IntKind.i64 ((wrapA IntKind.i64 ((Int.ofNat l.length).add (Int.ofNat 7))).tdiv (Int.ofNat 8)) = (((l.length + 7) / 8 : Nat) : Int) := pack_len l.length (by omega)
  have f1 : rowCut (ofBytes (packB ((l.length + 7) / 8) l)) 0 ((l.length + 7) / 8 * 1) = ofBytes (packB ((l.length + 7) / 8) l) := by
    rw [rowCut_ofBytes, List.drop_zero, List.take_of_length_le (by rw [packB_length]; omega)]
  have f2 : tightB (packB ((l.length + 7) / 8) l) l.length = true := tightB_packB _ l
  have f3 : unB (packB ((l.length + 7) / 8) l) l.length = l := unB_packB _ l (by omega)
  have bb : rowCut (ofBytes b) 0 b.length = ofBytes b := by
    rw [rowCut_ofBytes, List.drop_zero, List.take_of_length_le (Nat.le_refl _)]
  by_cases hne : l = []
  case pos =>
    subst hne
    right
    show ∃ h', aCall C5e 60 (Tgt.fn 8) [AV.fsl a0 0 [], AV.fsl a1 b.length (ofBytes b), AV.int IntKind.i64 n] H0 = some (AV.bool true, h')
    have e0 : ofBytes (packB 0 (boolsL [])) = [] := rfl
    by_cases hn : n < 0
    case pos =>
      have key := wp_b1e a0 a1 b.length (ofBytes b) n
      replace key := key (by
        (try simp only [kept_eq, boolsL_ofBools, bytesL_ofBytes, hK, hN, hM, mK, mb, pl, f1, f2, f3, e0])
        first
          | done
          | rfl
          | (simp [nbeq, nble, iltB_eq, ileB_eq, ieqB_eq, bytesEq_eq, u8L_ofBytes, isBoolL_ofBools, boolsL_ofBools, bytesL_ofBytes, bytesOf_ofBytes, ofBytes_plainL, ofBools_plainL, ofBytes_length, ofBools_length, packB_length, unB_length, boolsEq_self]; done)
          | (simp [nbeq, nble, iltB_eq, ileB_eq, ieqB_eq, bytesEq_eq, u8L_ofBytes, isBoolL_ofBools, boolsL_ofBools, bytesL_ofBytes, bytesOf_ofBytes, ofBytes_plainL, ofBools_plainL, ofBytes_length, ofBools_length, packB_length, unB_length, boolsEq_self]; omega)
          | omega)
      replace key := key (by
        (try simp only [kept_eq, boolsL_ofBools, bytesL_ofBytes, hK, hN, hM, mK, mb, pl, f1, f2, f3, e0])
        first
          | done
          | rfl
          | (simp [nbeq, nble, iltB_eq, ileB_eq, ieqB_eq, bytesEq_eq, u8L_ofBytes, isBoolL_ofBools, boolsL_ofBools, bytesL_ofBytes, bytesOf_ofBytes, ofBytes_plainL, ofBools_plainL, ofBytes_length, ofBools_length, packB_length, unB_length, boolsEq_self]; done)
          | (simp [nbeq, nble, iltB_eq, ileB_eq, ieqB_eq, bytesEq_eq, u8L_ofBytes, isBoolL_ofBools, boolsL_ofBools, bytesL_ofBytes, bytesOf_ofBytes, ofBytes_plainL, ofBools_plainL, ofBytes_length, ofBools_length, packB_length, unB_length, boolsEq_self]; omega)
          | omega)
      replace key := key (by
        (try simp only [kept_eq, boolsL_ofBools, bytesL_ofBytes, hK, hN, hM, mK, mb, pl, f1, f2, f3, e0])
        first
          | done
          | rfl
          | (simp [nbeq, nble, iltB_eq, ileB_eq, ieqB_eq, bytesEq_eq, u8L_ofBytes, isBoolL_ofBools, boolsL_ofBools, bytesL_ofBytes, bytesOf_ofBytes, ofBytes_plainL, ofBools_plainL, ofBytes_length, ofBools_length, packB_length, unB_length, boolsEq_self]; done)
          | (simp [nbeq, nble, iltB_eq, ileB_eq, ieqB_eq, bytesEq_eq, u8L_ofBytes, isBoolL_ofBools, boolsL_ofBools, bytesL_ofBytes, bytesOf_ofBytes, ofBytes_plainL, ofBools_plainL, ofBytes_length, ofBools_length, packB_length, unB_length, boolsEq_self]; omega)
          | omega)
      replace key := key (by
        (try simp only [kept_eq, boolsL_ofBools, bytesL_ofBytes, hK, hN, hM, mK, mb, pl, f1, f2, f3, e0])
        first
          | done
          | rfl
          | (simp [nbeq, nble, iltB_eq, ileB_eq, ieqB_eq, bytesEq_eq, u8L_ofBytes, isBoolL_ofBools, boolsL_ofBools, bytesL_ofBytes, bytesOf_ofBytes, ofBytes_plainL, ofBools_plainL, ofBytes_length, ofBools_length, packB_length, unB_length, boolsEq_self]; done)
          | (simp [nbeq, nble, iltB_eq, ileB_eq, ieqB_eq, bytesEq_eq, u8L_ofBytes, isBoolL_ofBools, boolsL_ofBools, bytesL_ofBytes, bytesOf_ofBytes, ofBytes_plainL, ofBools_plainL, ofBytes_length, ofBools_length, packB_length, unB_length, boolsEq_self]; omega)
          | omega)
      obtain ⟨h', h, _⟩ := key
      exact ⟨h', h⟩
    obtain ⟨n, rfl⟩ : ∃ k : Nat, n = Int.ofNat k := ⟨n.toNat, by show n = (n.toNat : Int); omega⟩
    clear hn
    by_cases h2 : 8 * b.length < n
    case pos =>
      have key := wp_b2e a0 a1 b.length (ofBytes b) n
      replace key := key (by
        (try simp only [kept_eq, boolsL_ofBools, bytesL_ofBytes, hK, hN, hM, mK, mb, pl, f1, f2, f3, e0])
        first
          | done
          | rfl
          | (simp [nbeq, nble, iltB_eq, ileB_eq, ieqB_eq, bytesEq_eq, u8L_ofBytes, isBoolL_ofBools, boolsL_ofBools, bytesL_ofBytes, bytesOf_ofBytes, ofBytes_plainL, ofBools_plainL, ofBytes_length, ofBools_length, packB_length, unB_length, boolsEq_self]; done)
          | (simp [nbeq, nble, iltB_eq, ileB_eq, ieqB_eq, bytesEq_eq, u8L_ofBytes, isBoolL_ofBools, boolsL_ofBools, bytesL_ofBytes, bytesOf_ofBytes, ofBytes_plainL, ofBools_plainL, ofBytes_length, ofBools_length, packB_length, unB_length, boolsEq_self]; omega)
          | omega)
      replace key := key (by
        (try simp only [kept_eq, boolsL_ofBools, bytesL_ofBytes, hK, hN, hM, mK, mb, pl, f1, f2, f3, e0])
        first
          | done
          | rfl
          | (simp [nbeq, nble, iltB_eq, ileB_eq, ieqB_eq, bytesEq_eq, u8L_ofBytes, isBoolL_ofBools, boolsL_ofBools, bytesL_ofBytes, bytesOf_ofBytes, ofBytes_plainL, ofBools_plainL, ofBytes_length, ofBools_length, packB_length, unB_length, boolsEq_self]; done)
          | (simp [nbeq, nble, iltB_eq, ileB_eq, ieqB_eq, bytesEq_eq, u8L_ofBytes, isBoolL_ofBools, boolsL_ofBools, bytesL_ofBytes, bytesOf_ofBytes, ofBytes_plainL, ofBools_plainL, ofBytes_length, ofBools_length, packB_length, unB_length, boolsEq_self]; omega)
          | omega)
      replace key := key (by
        (try simp only [kept_eq, boolsL_ofBools, bytesL_ofBytes, hK, hN, hM, mK, mb, pl, f1, f2, f3, e0])
        first
          | done
          | rfl
          | (simp [nbeq, nble, iltB_eq, ileB_eq, ieqB_eq, bytesEq_eq, u8L_ofBytes, isBoolL_ofBools, boolsL_ofBools, bytesL_ofBytes, bytesOf_ofBytes, ofBytes_plainL, ofBools_plainL, ofBytes_length, ofBools_length, packB_length, unB_length, boolsEq_self]; done)
          | (simp [nbeq, nble, iltB_eq, ileB_eq, ieqB_eq, bytesEq_eq, u8L_ofBytes, isBoolL_ofBools, boolsL_ofBools, bytesL_ofBytes, bytesOf_ofBytes, ofBytes_plainL, ofBools_plainL, ofBytes_length, ofBools_length, packB_length, unB_length, boolsEq_self]; omega)
          | omega)
      replace key := key (by
        (try simp only [kept_eq, boolsL_ofBools, bytesL_ofBytes, hK, hN, hM, mK, mb, pl, f1, f2, f3, e0])
        first
          | done
          | rfl
          | (simp [nbeq, nble, iltB_eq, ileB_eq, ieqB_eq, bytesEq_eq, u8L_ofBytes, isBoolL_ofBools, boolsL_ofBools, bytesL_ofBytes, bytesOf_ofBytes, ofBytes_plainL, ofBools_plainL, ofBytes_length, ofBools_length, packB_length, unB_length, boolsEq_self]; done)
          | (simp [nbeq, nble, iltB_eq, ileB_eq, ieqB_eq, bytesEq_eq, u8L_ofBytes, isBoolL_ofBools, boolsL_ofBools, bytesL_ofBytes, bytesOf_ofBytes, ofBytes_plainL, ofBools_plainL, ofBytes_length, ofBools_length, packB_length, unB_length, boolsEq_self]; omega)
          | omega)
      obtain ⟨h', h, _⟩ := key
      exact ⟨h', h⟩
    have pn : wrapA IntKind.i64 ((wrapA IntKind.i64 ((Int.ofNat n).add (Int.ofNat 7))).tdiv (Int.ofNat 8)) = (((n + 7) / 8 : Nat) : Int) := pack_len n (by omega)
    by_cases h3 : b.length = (n + 7) / 8
    case neg =>
      have key := wp_b3e a0 a1 b.length (ofBytes b) n
      replace key := key (by
        (try simp only [kept_eq, boolsL_ofBools, bytesL_ofBytes, hK, hN, hM, mK, mb, pl, f1, f2, f3, e0, pn])
        first
          | done
          | rfl
          | (simp [nbeq, nble, iltB_eq, ileB_eq, ieqB_eq, bytesEq_eq, u8L_ofBytes, isBoolL_ofBools, boolsL_ofBools, bytesL_ofBytes, bytesOf_ofBytes, ofBytes_plainL, ofBools_plainL, ofBytes_length, ofBools_length, packB_length, unB_length, boolsEq_self]; done)
          | (simp [nbeq, nble, iltB_eq, ileB_eq, ieqB_eq, bytesEq_eq, u8L_ofBytes, isBoolL_ofBools, boolsL_ofBools, bytesL_ofBytes, bytesOf_ofBytes, ofBytes_plainL, ofBools_plainL, ofBytes_length, ofBools_length, packB_length, unB_length, boolsEq_self]; omega)
          | omega)
      replace key := key (by
        (try simp only [kept_eq, boolsL_ofBools, bytesL_ofBytes, hK, hN, hM, mK, mb, pl, f1, f2, f3, e0, pn])
        first
          | done
          | rfl
          | (simp [nbeq, nble, iltB_eq, ileB_eq, ieqB_eq, bytesEq_eq, u8L_ofBytes, isBoolL_ofBools, boolsL_ofBools, bytesL_ofBytes, bytesOf_ofBytes, ofBytes_plainL, ofBools_plainL, ofBytes_length, ofBools_length, packB_length, unB_length, boolsEq_self]; done)
          | (simp [nbeq, nble, iltB_eq, ileB_eq, ieqB_eq, bytesEq_eq, u8L_ofBytes, isBoolL_ofBools, boolsL_ofBools, bytesL_ofBytes, bytesOf_ofBytes, ofBytes_plainL, ofBools_plainL, ofBytes_length, ofBools_length, packB_length, unB_length, boolsEq_self]; omega)
          | omega)
      replace key := key (by
        (try simp only [kept_eq, boolsL_ofBools, bytesL_ofBytes, hK, hN, hM, mK, mb, pl, f1, f2, f3, e0, pn])
        first
          | done
          | rfl
          | (simp [nbeq, nble, iltB_eq, ileB_eq, ieqB_eq, bytesEq_eq, u8L_ofBytes, isBoolL_ofBools, boolsL_ofBools, bytesL_ofBytes, bytesOf_ofBytes, ofBytes_plainL, ofBools_plainL, ofBytes_length, ofBools_length, packB_length, unB_length, boolsEq_self]; done)
          | (simp [nbeq, nble, iltB_eq, ileB_eq, ieqB_eq, bytesEq_eq, u8L_ofBytes, isBoolL_ofBools, boolsL_ofBools, bytesL_ofBytes, bytesOf_ofBytes, ofBytes_plainL, ofBools_plainL, ofBytes_length, ofBools_length, packB_length, unB_length, boolsEq_self]; omega)
          | omega)
      replace key := key (by
        (try simp only [kept_eq, boolsL_ofBools, bytesL_ofBytes, hK, hN, hM, mK, mb, pl, f1, f2, f3, e0, pn])
        first
          | done
          | rfl
          | (simp [nbeq, nble, iltB_eq, ileB_eq, ieqB_eq, bytesEq_eq, u8L_ofBytes, isBoolL_ofBools, boolsL_ofBools, bytesL_ofBytes, bytesOf_ofBytes, ofBytes_plainL, ofBools_plainL, ofBytes_length, ofBools_length, packB_length, unB_length, boolsEq_self]; done)
          | (simp [nbeq, nble, iltB_eq, ileB_eq, ieqB_eq, bytesEq_eq, u8L_ofBytes, isBoolL_ofBools, boolsL_ofBools, bytesL_ofBytes, bytesOf_ofBytes, ofBytes_plainL, ofBools_plainL, ofBytes_length, ofBools_length, packB_length, unB_length, boolsEq_self]; omega)
          | omega)
      replace key := key (by
        (try simp only [kept_eq, boolsL_ofBools, bytesL_ofBytes, hK, hN, hM, mK, mb, pl, f1, f2, f3, e0, pn])
        first
          | done
          | rfl
          | (simp [nbeq, nble, iltB_eq, ileB_eq, ieqB_eq, bytesEq_eq, u8L_ofBytes, isBoolL_ofBools, boolsL_ofBools, bytesL_ofBytes, bytesOf_ofBytes, ofBytes_plainL, ofBools_plainL, ofBytes_length, ofBools_length, packB_length, unB_length, boolsEq_self]; done)
          | (simp [nbeq, nble, iltB_eq, ileB_eq, ieqB_eq, bytesEq_eq, u8L_ofBytes, isBoolL_ofBools, boolsL_ofBools, bytesL_ofBytes, bytesOf_ofBytes, ofBytes_plainL, ofBools_plainL, ofBytes_length, ofBools_length, packB_length, unB_length, boolsEq_self]; omega)
          | omega)
      replace key := key (by
        (try simp only [kept_eq, boolsL_ofBools, bytesL_ofBytes, hK, hN, hM, mK, mb, pl, f1, f2, f3, e0, pn])
        first
          | done
          | rfl
          | (simp [nbeq, nble, iltB_eq, ileB_eq, ieqB_eq, bytesEq_eq, u8L_ofBytes, isBoolL_ofBools, boolsL_ofBools, bytesL_ofBytes, bytesOf_ofBytes, ofBytes_plainL, ofBools_plainL, ofBytes_length, ofBools_length, packB_length, unB_length, boolsEq_self]; done)
          | (simp [nbeq, nble, iltB_eq, ileB_eq, ieqB_eq, bytesEq_eq, u8L_ofBytes, isBoolL_ofBools, boolsL_ofBools, bytesL_ofBytes, bytesOf_ofBytes, ofBytes_plainL, ofBools_plainL, ofBytes_length, ofBools_length, packB_length, unB_length, boolsEq_self]; omega)
          | omega)
      replace key := key (by
        (try simp only [kept_eq, boolsL_ofBools, bytesL_ofBytes, hK, hN, hM, mK, mb, pl, f1, f2, f3, e0, pn])
        first
          | done
          | rfl
          | (simp [nbeq, nble, iltB_eq, ileB_eq, ieqB_eq, bytesEq_eq, u8L_ofBytes, isBoolL_ofBools, boolsL_ofBools, bytesL_ofBytes, bytesOf_ofBytes, ofBytes_plainL, ofBools_plainL, ofBytes_length, ofBools_length, packB_length, unB_length, boolsEq_self]; done)
          | (simp [nbeq, nble, iltB_eq, ileB_eq, ieqB_eq, bytesEq_eq, u8L_ofBytes, isBoolL_ofBools, boolsL_ofBools, bytesL_ofBytes, bytesOf_ofBytes, ofBytes_plainL, ofBools_plainL, ofBytes_length, ofBools_length, packB_length, unB_length, boolsEq_self]; omega)
          | omega)
      obtain ⟨h', h, _⟩ := key
      exact ⟨h', h⟩
    by_cases h4 : n = 0
    case pos =>
      subst h4
      have b0 : b = [] := List.eq_nil_of_length_eq_zero (by omega)
      subst b0
      have key := wp_ze a0 a1 0 (ofBytes []) 0
      replace key := key (by
        (try simp only [kept_eq, boolsL_ofBools, bytesL_ofBytes, hK, hN, hM, mK, pl, f1, f2, f3, e0])
        first
          | done
          | rfl
          | (simp [nbeq, nble, iltB_eq, ileB_eq, ieqB_eq, bytesEq_eq, u8L_ofBytes, isBoolL_ofBools, boolsL_ofBools, bytesL_ofBytes, bytesOf_ofBytes, ofBytes_plainL, ofBools_plainL, ofBytes_length, ofBools_length, packB_length, unB_length, boolsEq_self]; done)
          | (simp [nbeq, nble, iltB_eq, ileB_eq, ieqB_eq, bytesEq_eq, u8L_ofBytes, isBoolL_ofBools, boolsL_ofBools, bytesL_ofBytes, bytesOf_ofBytes, ofBytes_plainL, ofBools_plainL, ofBytes_length, ofBools_length, packB_length, unB_length, boolsEq_self]; omega)
          | omega)
      replace key := key (by
        (try simp only [kept_eq, boolsL_ofBools, bytesL_ofBytes, hK, hN, hM, mK, pl, f1, f2, f3, e0])
        first
          | done
          | rfl
          | (simp [nbeq, nble, iltB_eq, ileB_eq, ieqB_eq, bytesEq_eq, u8L_ofBytes, isBoolL_ofBools, boolsL_ofBools, bytesL_ofBytes, bytesOf_ofBytes, ofBytes_plainL, ofBools_plainL, ofBytes_length, ofBools_length, packB_length, unB_length, boolsEq_self]; done)
          | (simp [nbeq, nble, iltB_eq, ileB_eq, ieqB_eq, bytesEq_eq, u8L_ofBytes, isBoolL_ofBools, boolsL_ofBools, bytesL_ofBytes, bytesOf_ofBytes, ofBytes_plainL, ofBools_plainL, ofBytes_length, ofBools_length, packB_length, unB_length, boolsEq_self]; omega)
          | omega)
      replace key := key (by
        (try simp only [kept_eq, boolsL_ofBools, bytesL_ofBytes, hK, hN, hM, mK, pl, f1, f2, f3, e0])
        first
          | done
          | rfl
          | (simp [nbeq, nble, iltB_eq, ileB_eq, ieqB_eq, bytesEq_eq, u8L_ofBytes, isBoolL_ofBools, boolsL_ofBools, bytesL_ofBytes, bytesOf_ofBytes, ofBytes_plainL, ofBools_plainL, ofBytes_length, ofBools_length, packB_length, unB_length, boolsEq_self]; done)
          | (simp [nbeq, nble, iltB_eq, ileB_eq, ieqB_eq, bytesEq_eq, u8L_ofBytes, isBoolL_ofBools, boolsL_ofBools, bytesL_ofBytes, bytesOf_ofBytes, ofBytes_plainL, ofBools_plainL, ofBytes_length, ofBools_length, packB_length, unB_length, boolsEq_self]; omega)
          | omega)
      replace key := key (by
        (try simp only [kept_eq, boolsL_ofBools, bytesL_ofBytes, hK, hN, hM, mK, pl, f1, f2, f3, e0])
        first
          | done
          | rfl
          | (simp [nbeq, nble, iltB_eq, ileB_eq, ieqB_eq, bytesEq_eq, u8L_ofBytes, isBoolL_ofBools, boolsL_ofBools, bytesL_ofBytes, bytesOf_ofBytes, ofBytes_plainL, ofBools_plainL, ofBytes_length, ofBools_length, packB_length, unB_length, boolsEq_self]; done)
          | (simp [nbeq, nble, iltB_eq, ileB_eq, ieqB_eq, bytesEq_eq, u8L_ofBytes, isBoolL_ofBools, boolsL_ofBools, bytesL_ofBytes, bytesOf_ofBytes, ofBytes_plainL, ofBools_plainL, ofBytes_length, ofBools_length, packB_length, unB_length, boolsEq_self]; omega)
          | omega)
      replace key := key (by
        (try simp only [kept_eq, boolsL_ofBools, bytesL_ofBytes, hK, hN, hM, mK, pl, f1, f2, f3, e0])
        first
          | done
          | rfl
          | (simp [nbeq, nble, iltB_eq, ileB_eq, ieqB_eq, bytesEq_eq, u8L_ofBytes, isBoolL_ofBools, boolsL_ofBools, bytesL_ofBytes, bytesOf_ofBytes, ofBytes_plainL, ofBools_plainL, ofBytes_length, ofBools_length, packB_length, unB_length, boolsEq_self]; done)
          | (simp [nbeq, nble, iltB_eq, ileB_eq, ieqB_eq, bytesEq_eq, u8L_ofBytes, isBoolL_ofBools, boolsL_ofBools, bytesL_ofBytes, bytesOf_ofBytes, ofBytes_plainL, ofBools_plainL, ofBytes_length, ofBools_length, packB_length, unB_length, boolsEq_self]; omega)
          | omega)
      replace key := key (by
        (try simp only [kept_eq, boolsL_ofBools, bytesL_ofBytes, hK, hN, hM, mK, pl, f1, f2, f3, e0])
        first
          | done
          | rfl
          | (simp [nbeq, nble, iltB_eq, ileB_eq, ieqB_eq, bytesEq_eq, u8L_ofBytes, isBoolL_ofBools, boolsL_ofBools, bytesL_ofBytes, bytesOf_ofBytes, ofBytes_plainL, ofBools_plainL, ofBytes_length, ofBools_length, packB_length, unB_length, boolsEq_self]; done)
          | (simp [nbeq, nble, iltB_eq, ileB_eq, ieqB_eq, bytesEq_eq, u8L_ofBytes, isBoolL_ofBools, boolsL_ofBools, bytesL_ofBytes, bytesOf_ofBytes, ofBytes_plainL, ofBools_plainL, ofBytes_length, ofBools_length, packB_length, unB_length, boolsEq_self]; omega)
          | omega)
      replace key := key (by
        (try simp only [kept_eq, boolsL_ofBools, bytesL_ofBytes, hK, hN, hM, mK, pl, f1, f2, f3, e0])
        first
          | done
          | rfl
          | (simp [nbeq, nble, iltB_eq, ileB_eq, ieqB_eq, bytesEq_eq, u8L_ofBytes, isBoolL_ofBools, boolsL_ofBools, bytesL_ofBytes, bytesOf_ofBytes, ofBytes_plainL, ofBools_plainL, ofBytes_length, ofBools_length, packB_length, unB_length, boolsEq_self]; done)
          | (simp [nbeq, nble, iltB_eq, ileB_eq, ieqB_eq, bytesEq_eq, u8L_ofBytes, isBoolL_ofBools, boolsL_ofBools, bytesL_ofBytes, bytesOf_ofBytes, ofBytes_plainL, ofBools_plainL, ofBytes_length, ofBools_length, packB_length, unB_length, boolsEq_self]; omega)
          | omega)
      replace key := key (by
        (try simp only [kept_eq, boolsL_ofBools, bytesL_ofBytes, hK, hN, hM, mK, pl, f1, f2, f3, e0])
        first
          | done
          | rfl
          | (simp [nbeq, nble, iltB_eq, ileB_eq, ieqB_eq, bytesEq_eq, u8L_ofBytes, isBoolL_ofBools, boolsL_ofBools, bytesL_ofBytes, bytesOf_ofBytes, ofBytes_plainL, ofBools_plainL, ofBytes_length, ofBools_length, packB_length, unB_length, boolsEq_self]; done)
          | (simp [nbeq, nble, iltB_eq, ileB_eq, ieqB_eq, bytesEq_eq, u8L_ofBytes, isBoolL_ofBools, boolsL_ofBools, bytesL_ofBytes, bytesOf_ofBytes, ofBytes_plainL, ofBools_plainL, ofBytes_length, ofBools_length, packB_length, unB_length, boolsEq_self]; omega)
          | omega)
      replace key := key (by
        (try simp only [kept_eq, boolsL_ofBools, bytesL_ofBytes, hK, hN, hM, mK, pl, f1, f2, f3, e0])
        first
          | done
          | rfl
          | (simp [nbeq, nble, iltB_eq, ileB_eq, ieqB_eq, bytesEq_eq, u8L_ofBytes, isBoolL_ofBools, boolsL_ofBools, bytesL_ofBytes, bytesOf_ofBytes, ofBytes_plainL, ofBools_plainL, ofBytes_length, ofBools_length, packB_length, unB_length, boolsEq_self]; done)
          | (simp [nbeq, nble, iltB_eq, ileB_eq, ieqB_eq, bytesEq_eq, u8L_ofBytes, isBoolL_ofBools, boolsL_ofBools, bytesL_ofBytes, bytesOf_ofBytes, ofBytes_plainL, ofBools_plainL, ofBytes_length, ofBools_length, packB_length, unB_length, boolsEq_self]; omega)
          | omega)
      replace key := key (by
        (try simp only [kept_eq, boolsL_ofBools, bytesL_ofBytes, hK, hN, hM, mK, pl, f1, f2, f3, e0])
        first
          | done
          | rfl
          | (simp [nbeq, nble, iltB_eq, ileB_eq, ieqB_eq, bytesEq_eq, u8L_ofBytes, isBoolL_ofBools, boolsL_ofBools, bytesL_ofBytes, bytesOf_ofBytes, ofBytes_plainL, ofBools_plainL, ofBytes_length, ofBools_length, packB_length, unB_length, boolsEq_self]; done)
          | (simp [nbeq, nble, iltB_eq, ileB_eq, ieqB_eq, bytesEq_eq, u8L_ofBytes, isBoolL_ofBools, boolsL_ofBools, bytesL_ofBytes, bytesOf_ofBytes, ofBytes_plainL, ofBools_plainL, ofBytes_length, ofBools_length, packB_length, unB_length, boolsEq_self]; omega)
          | omega)
      replace key := key (by
        (try simp only [kept_eq, boolsL_ofBools, bytesL_ofBytes, hK, hN, hM, mK, pl, f1, f2, f3, e0])
        first
          | done
          | rfl
          | (simp [nbeq, nble, iltB_eq, ileB_eq, ieqB_eq, bytesEq_eq, u8L_ofBytes, isBoolL_ofBools, boolsL_ofBools, bytesL_ofBytes, bytesOf_ofBytes, ofBytes_plainL, ofBools_plainL, ofBytes_length, ofBools_length, packB_length, unB_length, boolsEq_self]; done)
          | (simp [nbeq, nble, iltB_eq, ileB_eq, ieqB_eq, bytesEq_eq, u8L_ofBytes, isBoolL_ofBools, boolsL_ofBools, bytesL_ofBytes, bytesOf_ofBytes, ofBytes_plainL, ofBools_plainL, ofBytes_length, ofBools_length, packB_length, unB_length, boolsEq_self]; omega)
          | omega)
      replace key := key (by
        (try simp only [kept_eq, boolsL_ofBools, bytesL_ofBytes, hK, hN, hM, mK, pl, f1, f2, f3, e0])
        first
          | done
          | rfl
          | (simp [nbeq, nble, iltB_eq, ileB_eq, ieqB_eq, bytesEq_eq, u8L_ofBytes, isBoolL_ofBools, boolsL_ofBools, bytesL_ofBytes, bytesOf_ofBytes, ofBytes_plainL, ofBools_plainL, ofBytes_length, ofBools_length, packB_length, unB_length, boolsEq_self]; done)
          | (simp [nbeq, nble, iltB_eq, ileB_eq, ieqB_eq, bytesEq_eq, u8L_ofBytes, isBoolL_ofBools, boolsL_ofBools, bytesL_ofBytes, bytesOf_ofBytes, ofBytes_plainL, ofBools_plainL, ofBytes_length, ofBools_length, packB_length, unB_length, boolsEq_self]; omega)
          | omega)
      obtain ⟨h', h, _⟩ := key
      exact ⟨h', h⟩
    have g1 : rowCut (ofBools (unB b n)) 0 (n * 1) = ofBools (unB b n) := by
      rw [rowCut_ofBools, List.drop_zero, List.take_of_length_le (by rw [unB_length]; omega)]
    cases tb : tightB b n with
    | true =>
      have g2 : packB ((n + 7) / 8) (unB b n) = b := by rw [← h3]; exact packB_unB b n tb
      have g3 : rowCut (ofBytes b) 0 ((n + 7) / 8) = ofBytes b := by rw [← h3]; exact bb
      have key := wp_oke a0 a1 b.length (ofBytes b) n
      replace key := key (by
        (try simp only [kept_eq, boolsL_ofBools, bytesL_ofBytes, hK, hN, hM, mK, mb, pl, f1, f2, f3, e0, pn, tb, g1, g2, g3])
        first
          | done
          | rfl
          | (simp [nbeq, nble, iltB_eq, ileB_eq, ieqB_eq, bytesEq_eq, u8L_ofBytes, isBoolL_ofBools, boolsL_ofBools, bytesL_ofBytes, bytesOf_ofBytes, ofBytes_plainL, ofBools_plainL, ofBytes_length, ofBools_length, packB_length, unB_length, boolsEq_self, tb]; done)
          | (simp [nbeq, nble, iltB_eq, ileB_eq, ieqB_eq, bytesEq_eq, u8L_ofBytes, isBoolL_ofBools, boolsL_ofBools, bytesL_ofBytes, bytesOf_ofBytes, ofBytes_plainL, ofBools_plainL, ofBytes_length, ofBools_length, packB_length, unB_length, boolsEq_self]; omega)
          | omega)
      replace key := key (by
        (try simp only [kept_eq, boolsL_ofBools, bytesL_ofBytes, hK, hN, hM, mK, mb, pl, f1, f2, f3, e0, pn, tb, g1, g2, g3])
        first
          | done
          | rfl
          | (simp [nbeq, nble, iltB_eq, ileB_eq, ieqB_eq, bytesEq_eq, u8L_ofBytes, isBoolL_ofBools, boolsL_ofBools, bytesL_ofBytes, bytesOf_ofBytes, ofBytes_plainL, ofBools_plainL, ofBytes_length, ofBools_length, packB_length, unB_length, boolsEq_self, tb]; done)
          | (simp [nbeq, nble, iltB_eq, ileB_eq, ieqB_eq, bytesEq_eq, u8L_ofBytes, isBoolL_ofBools, boolsL_ofBools, bytesL_ofBytes, bytesOf_ofBytes, ofBytes_plainL, ofBools_plainL, ofBytes_length, ofBools_length, packB_length, unB_length, boolsEq_self]; omega)
          | omega)
      replace key := key (by
        (try simp only [kept_eq, boolsL_ofBools, bytesL_ofBytes, hK, hN, hM, mK, mb, pl, f1, f2, f3, e0, pn, tb, g1, g2, g3])
        first
          | done
          | rfl
          | (simp [nbeq, nble, iltB_eq, ileB_eq, ieqB_eq, bytesEq_eq, u8L_ofBytes, isBoolL_ofBools, boolsL_ofBools, bytesL_ofBytes, bytesOf_ofBytes, ofBytes_plainL, ofBools_plainL, ofBytes_length, ofBools_length, packB_length, unB_length, boolsEq_self, tb]; done)
          | (simp [nbeq, nble, iltB_eq, ileB_eq, ieqB_eq, bytesEq_eq, u8L_ofBytes, isBoolL_ofBools, boolsL_ofBools, bytesL_ofBytes, bytesOf_ofBytes, ofBytes_plainL, ofBools_plainL, ofBytes_length, ofBools_length, packB_length, unB_length, boolsEq_self]; omega)
          | omega)
      replace key := key (by
        (try simp only [kept_eq, boolsL_ofBools, bytesL_ofBytes, hK, hN, hM, mK, mb, pl, f1, f2, f3, e0, pn, tb, g1, g2, g3])
        first
          | done
          | rfl
          | (simp [nbeq, nble, iltB_eq, ileB_eq, ieqB_eq, bytesEq_eq, u8L_ofBytes, isBoolL_ofBools, boolsL_ofBools, bytesL_ofBytes, bytesOf_ofBytes, ofBytes_plainL, ofBools_plainL, ofBytes_length, ofBools_length, packB_length, unB_length, boolsEq_self, tb]; done)
          | (simp [nbeq, nble, iltB_eq, ileB_eq, ieqB_eq, bytesEq_eq, u8L_ofBytes, isBoolL_ofBools, boolsL_ofBools, bytesL_ofBytes, bytesOf_ofBytes, ofBytes_plainL, ofBools_plainL, ofBytes_length, ofBools_length, packB_length, unB_length, boolsEq_self]; omega)
          | omega)
      replace key := key (by
        (try simp only [kept_eq, boolsL_ofBools, bytesL_ofBytes, hK, hN, hM, mK, mb, pl, f1, f2, f3, e0, pn, tb, g1, g2, g3])
        first
          | done
          | rfl
          | (simp [nbeq, nble, iltB_eq, ileB_eq, ieqB_eq, bytesEq_eq, u8L_ofBytes, isBoolL_ofBools, boolsL_ofBools, bytesL_ofBytes, bytesOf_ofBytes, ofBytes_plainL, ofBools_plainL, ofBytes_length, ofBools_length, packB_length, unB_length, boolsEq_self, tb]; done)
          | (simp [nbeq, nble, iltB_eq, ileB_eq, ieqB_eq, bytesEq_eq, u8L_ofBytes, isBoolL_ofBools, boolsL_ofBools, bytesL_ofBytes, bytesOf_ofBytes, ofBytes_plainL, ofBools_plainL, ofBytes_length, ofBools_length, packB_length, unB_length, boolsEq_self]; omega)
          | omega)
      replace key := key (by
        (try simp only [kept_eq, boolsL_ofBools, bytesL_ofBytes, hK, hN, hM, mK, mb, pl, f1, f2, f3, e0, pn, tb, g1, g2, g3])
        first
          | done
          | rfl
          | (simp [nbeq, nble, iltB_eq, ileB_eq, ieqB_eq, bytesEq_eq, u8L_ofBytes, isBoolL_ofBools, boolsL_ofBools, bytesL_ofBytes, bytesOf_ofBytes, ofBytes_plainL, ofBools_plainL, ofBytes_length, ofBools_length, packB_length, unB_length, boolsEq_self, tb]; done)
          | (simp [nbeq, nble, iltB_eq, ileB_eq, ieqB_eq, bytesEq_eq, u8L_ofBytes, isBoolL_ofBools, boolsL_ofBools, bytesL_ofBytes, bytesOf_ofBytes, ofBytes_plainL, ofBools_plainL, ofBytes_length, ofBools_length, packB_length, unB_length, boolsEq_self]; omega)
          | omega)
      replace key := key (by
        (try simp only [kept_eq, boolsL_ofBools, bytesL_ofBytes, hK, hN, hM, mK, mb, pl, f1, f2, f3, e0, pn, tb, g1, g2, g3])
        first
          | done
          | rfl
          | (simp [nbeq, nble, iltB_eq, ileB_eq, ieqB_eq, bytesEq_eq, u8L_ofBytes, isBoolL_ofBools, boolsL_ofBools, bytesL_ofBytes, bytesOf_ofBytes, ofBytes_plainL, ofBools_plainL, ofBytes_length, ofBools_length, packB_length, unB_length, boolsEq_self, tb]; done)
          | (simp [nbeq, nble, iltB_eq, ileB_eq, ieqB_eq, bytesEq_eq, u8L_ofBytes, isBoolL_ofBools, boolsL_ofBools, bytesL_ofBytes, bytesOf_ofBytes, ofBytes_plainL, ofBools_plainL, ofBytes_length, ofBools_length, packB_length, unB_length, boolsEq_self]; omega)
          | omega)
      replace key := key (by
        (try simp only [kept_eq, boolsL_ofBools, bytesL_ofBytes, hK, hN, hM, mK, mb, pl, f1, f2, f3, e0, pn, tb, g1, g2, g3])
        first
          | done
          | rfl
          | (simp [nbeq, nble, iltB_eq, ileB_eq, ieqB_eq, bytesEq_eq, u8L_ofBytes, isBoolL_ofBools, boolsL_ofBools, bytesL_ofBytes, bytesOf_ofBytes, ofBytes_plainL, ofBools_plainL, ofBytes_length, ofBools_length, packB_length, unB_length, boolsEq_self, tb]; done)
          | (simp [nbeq, nble, iltB_eq, ileB_eq, ieqB_eq, bytesEq_eq, u8L_ofBytes, isBoolL_ofBools, boolsL_ofBools, bytesL_ofBytes, bytesOf_ofBytes, ofBytes_plainL, ofBools_plainL, ofBytes_length, ofBools_length, packB_length, unB_length, boolsEq_self]; omega)
          | omega)
      replace key := key (by
        (try simp only [kept_eq, boolsL_ofBools, bytesL_ofBytes, hK, hN, hM, mK, mb, pl, f1, f2, f3, e0, pn, tb, g1, g2, g3])
        first
          | done
          | rfl
          | (simp [nbeq, nble, iltB_eq, ileB_eq, ieqB_eq, bytesEq_eq, u8L_ofBytes, isBoolL_ofBools, boolsL_ofBools, bytesL_ofBytes, bytesOf_ofBytes, ofBytes_plainL, ofBools_plainL, ofBytes_length, ofBools_length, packB_length, unB_length, boolsEq_self, tb]; done)
          | (simp [nbeq, nble, iltB_eq, ileB_eq, ieqB_eq, bytesEq_eq, u8L_ofBytes, isBoolL_ofBools, boolsL_ofBools, bytesL_ofBytes, bytesOf_ofBytes, ofBytes_plainL, ofBools_plainL, ofBytes_length, ofBools_length, packB_length, unB_length, boolsEq_self]; omega)
          | omega)
      replace key := key (by
        (try simp only [kept_eq, boolsL_ofBools, bytesL_ofBytes, hK, hN, hM, mK, mb, pl, f1, f2, f3, e0, pn, tb, g1, g2, g3])
        first
          | done
          | rfl
          | (simp [nbeq, nble, iltB_eq, ileB_eq, ieqB_eq, bytesEq_eq, u8L_ofBytes, isBoolL_ofBools, boolsL_ofBools, bytesL_ofBytes, bytesOf_ofBytes, ofBytes_plainL, ofBools_plainL, ofBytes_length, ofBools_length, packB_length, unB_length, boolsEq_self, tb]; done)
          | (simp [nbeq, nble, iltB_eq, ileB_eq, ieqB_eq, bytesEq_eq, u8L_ofBytes, isBoolL_ofBools, boolsL_ofBools, bytesL_ofBytes, bytesOf_ofBytes, ofBytes_plainL, ofBools_plainL, ofBytes_length, ofBools_length, packB_length, unB_length, boolsEq_self]; omega)
          | omega)
      replace key := key (by
        (try simp only [kept_eq, boolsL_ofBools, bytesL_ofBytes, hK, hN, hM, mK, mb, pl, f1, f2, f3, e0, pn, tb, g1, g2, g3])
        first
          | done
          | rfl
          | (simp [nbeq, nble, iltB_eq, ileB_eq, ieqB_eq, bytesEq_eq, u8L_ofBytes, isBoolL_ofBools, boolsL_ofBools, bytesL_ofBytes, bytesOf_ofBytes, ofBytes_plainL, ofBools_plainL, ofBytes_length, ofBools_length, packB_length, unB_length, boolsEq_self, tb]; done)
          | (simp [nbeq, nble, iltB_eq, ileB_eq, ieqB_eq, bytesEq_eq, u8L_ofBytes, isBoolL_ofBools, boolsL_ofBools, bytesL_ofBytes, bytesOf_ofBytes, ofBytes_plainL, ofBools_plainL, ofBytes_length, ofBools_length, packB_length, unB_length, boolsEq_self]; omega)
          | omega)
      replace key := key (by
        (try simp only [kept_eq, boolsL_ofBools, bytesL_ofBytes, hK, hN, hM, mK, mb, pl, f1, f2, f3, e0, pn, tb, g1, g2, g3])
        first
          | done
          | rfl
          | (simp [nbeq, nble, iltB_eq, ileB_eq, ieqB_eq, bytesEq_eq, u8L_ofBytes, isBoolL_ofBools, boolsL_ofBools, bytesL_ofBytes, bytesOf_ofBytes, ofBytes_plainL, ofBools_plainL, ofBytes_length, ofBools_length, packB_length, unB_length, boolsEq_self, tb]; done)
          | (simp [nbeq, nble, iltB_eq, ileB_eq, ieqB_eq, bytesEq_eq, u8L_ofBytes, isBoolL_ofBools, boolsL_ofBools, bytesL_ofBytes, bytesOf_ofBytes, ofBytes_plainL, ofBools_plainL, ofBytes_length, ofBools_length, packB_length, unB_length, boolsEq_self]; omega)
          | omega)
      replace key := key (by
        (try simp only [kept_eq, boolsL_ofBools, bytesL_ofBytes, hK, hN, hM, mK, mb, pl, f1, f2, f3, e0, pn, tb, g1, g2, g3])
        first
          | done
          | rfl
          | (simp [nbeq, nble, iltB_eq, ileB_eq, ieqB_eq, bytesEq_eq, u8L_ofBytes, isBoolL_ofBools, boolsL_ofBools, bytesL_ofBytes, bytesOf_ofBytes, ofBytes_plainL, ofBools_plainL, ofBytes_length, ofBools_length, packB_length, unB_length, boolsEq_self, tb]; done)
          | (simp [nbeq, nble, iltB_eq, ileB_eq, ieqB_eq, bytesEq_eq, u8L_ofBytes, isBoolL_ofBools, boolsL_ofBools, bytesL_ofBytes, bytesOf_ofBytes, ofBytes_plainL, ofBools_plainL, ofBytes_length, ofBools_length, packB_length, unB_length, boolsEq_self]; omega)
          | omega)
      replace key := key (by
        (try simp only [kept_eq, boolsL_ofBools, bytesL_ofBytes, hK, hN, hM, mK, mb, pl, f1, f2, f3, e0, pn, tb, g1, g2, g3])
        first
          | done
          | rfl
          | (simp [nbeq, nble, iltB_eq, ileB_eq, ieqB_eq, bytesEq_eq, u8L_ofBytes, isBoolL_ofBools, boolsL_ofBools, bytesL_ofBytes, bytesOf_ofBytes, ofBytes_plainL, ofBools_plainL, ofBytes_length, ofBools_length, packB_length, unB_length, boolsEq_self, tb]; done)
          | (simp [nbeq, nble, iltB_eq, ileB_eq, ieqB_eq, bytesEq_eq, u8L_ofBytes, isBoolL_ofBools, boolsL_ofBools, bytesL_ofBytes, bytesOf_ofBytes, ofBytes_plainL, ofBools_plainL, ofBytes_length, ofBools_length, packB_length, unB_length, boolsEq_self]; omega)
          | omega)
      replace key := key (by
        (try simp only [kept_eq, boolsL_ofBools, bytesL_ofBytes, hK, hN, hM, mK, mb, pl, f1, f2, f3, e0, pn, tb, g1, g2, g3])
        first
          | done
          | rfl
          | (simp [nbeq, nble, iltB_eq, ileB_eq, ieqB_eq, bytesEq_eq, u8L_ofBytes, isBoolL_ofBools, boolsL_ofBools, bytesL_ofBytes, bytesOf_ofBytes, ofBytes_plainL, ofBools_plainL, ofBytes_length, ofBools_length, packB_length, unB_length, boolsEq_self, tb]; done)
          | (simp [nbeq, nble, iltB_eq, ileB_eq, ieqB_eq, bytesEq_eq, u8L_ofBytes, isBoolL_ofBools, boolsL_ofBools, bytesL_ofBytes, bytesOf_ofBytes, ofBytes_plainL, ofBools_plainL, ofBytes_length, ofBools_length, packB_length, unB_length, boolsEq_self]; omega)
          | omega)
      replace key := key (by
        (try simp only [kept_eq, boolsL_ofBools, bytesL_ofBytes, hK, hN, hM, mK, mb, pl, f1, f2, f3, e0, pn, tb, g1, g2, g3])
        first
          | done
          | rfl
          | (simp [nbeq, nble, iltB_eq, ileB_eq, ieqB_eq, bytesEq_eq, u8L_ofBytes, isBoolL_ofBools, boolsL_ofBools, bytesL_ofBytes, bytesOf_ofBytes, ofBytes_plainL, ofBools_plainL, ofBytes_length, ofBools_length, packB_length, unB_length, boolsEq_self, tb]; done)
          | (simp [nbeq, nble, iltB_eq, ileB_eq, ieqB_eq, bytesEq_eq, u8L_ofBytes, isBoolL_ofBools, boolsL_ofBools, bytesL_ofBytes, bytesOf_ofBytes, ofBytes_plainL, ofBools_plainL, ofBytes_length, ofBools_length, packB_length, unB_length, boolsEq_self]; omega)
          | omega)
      replace key := key (by
        (try simp only [kept_eq, boolsL_ofBools, bytesL_ofBytes, hK, hN, hM, mK, mb, pl, f1, f2, f3, e0, pn, tb, g1, g2, g3])
        first
          | done
          | rfl
          | (simp [nbeq, nble, iltB_eq, ileB_eq, ieqB_eq, bytesEq_eq, u8L_ofBytes, isBoolL_ofBools, boolsL_ofBools, bytesL_ofBytes, bytesOf_ofBytes, ofBytes_plainL, ofBools_plainL, ofBytes_length, ofBools_length, packB_length, unB_length, boolsEq_self, tb]; done)
          | (simp [nbeq, nble, iltB_eq, ileB_eq, ieqB_eq, bytesEq_eq, u8L_ofBytes, isBoolL_ofBools, boolsL_ofBools, bytesL_ofBytes, bytesOf_ofBytes, ofBytes_plainL, ofBools_plainL, ofBytes_length, ofBools_length, packB_length, unB_length, boolsEq_self]; omega)
          | omega)
      replace key := key (by
        (try simp only [kept_eq, boolsL_ofBools, bytesL_ofBytes, hK, hN, hM, mK, mb, pl, f1, f2, f3, e0, pn, tb, g1, g2, g3])
        first
          | done
          | rfl
          | (simp [nbeq, nble, iltB_eq, ileB_eq, ieqB_eq, bytesEq_eq, u8L_ofBytes, isBoolL_ofBools, boolsL_ofBools, bytesL_ofBytes, bytesOf_ofBytes, ofBytes_plainL, ofBools_plainL, ofBytes_length, ofBools_length, packB_length, unB_length, boolsEq_self, tb]; done)
          | (simp [nbeq, nble, iltB_eq, ileB_eq, ieqB_eq, bytesEq_eq, u8L_ofBytes, isBoolL_ofBools, boolsL_ofBools, bytesL_ofBytes, bytesOf_ofBytes, ofBytes_plainL, ofBools_plainL, ofBytes_length, ofBools_length, packB_length, unB_length, boolsEq_self]; omega)
          | omega)
      replace key := key (by
        (try simp only [kept_eq, boolsL_ofBools, bytesL_ofBytes, hK, hN, hM, mK, mb, pl, f1, f2, f3, e0, pn, tb, g1, g2, g3])
        first
          | done
          | rfl
          | (simp [nbeq, nble, iltB_eq, ileB_eq, ieqB_eq, bytesEq_eq, u8L_ofBytes, isBoolL_ofBools, boolsL_ofBools, bytesL_ofBytes, bytesOf_ofBytes, ofBytes_plainL, ofBools_plainL, ofBytes_length, ofBools_length, packB_length, unB_length, boolsEq_self, tb]; done)
          | (simp [nbeq, nble, iltB_eq, ileB_eq, ieqB_eq, bytesEq_eq, u8L_ofBytes, isBoolL_ofBools, boolsL_ofBools, bytesL_ofBytes, bytesOf_ofBytes, ofBytes_plainL, ofBools_plainL, ofBytes_length, ofBools_length, packB_length, unB_length, boolsEq_self]; omega)
          | omega)
      replace key := key (by
        (try simp only [kept_eq, boolsL_ofBools, bytesL_ofBytes, hK, hN, hM, mK, mb, pl, f1, f2, f3, e0, pn, tb, g1, g2, g3])
        first
          | done
          | rfl
          | (simp [nbeq, nble, iltB_eq, ileB_eq, ieqB_eq, bytesEq_eq, u8L_ofBytes, isBoolL_ofBools, boolsL_ofBools, bytesL_ofBytes, bytesOf_ofBytes, ofBytes_plainL, ofBools_plainL, ofBytes_length, ofBools_length, packB_length, unB_length, boolsEq_self, tb]; done)
          | (simp [nbeq, nble, iltB_eq, ileB_eq, ieqB_eq, bytesEq_eq, u8L_ofBytes, isBoolL_ofBools, boolsL_ofBools, bytesL_ofBytes, bytesOf_ofBytes, ofBytes_plainL, ofBools_plainL, ofBytes_length, ofBools_length, packB_length, unB_length, boolsEq_self]; omega)
          | omega)
      replace key := key (by
        (try simp only [kept_eq, boolsL_ofBools, bytesL_ofBytes, hK, hN, hM, mK, mb, pl, f1, f2, f3, e0, pn, tb, g1, g2, g3])
        first
          | done
          | rfl
          | (simp [nbeq, nble, iltB_eq, ileB_eq, ieqB_eq, bytesEq_eq, u8L_ofBytes, isBoolL_ofBools, boolsL_ofBools, bytesL_ofBytes, bytesOf_ofBytes, ofBytes_plainL, ofBools_plainL, ofBytes_length, ofBools_length, packB_length, unB_length, boolsEq_self, tb]; done)
          | (simp [nbeq, nble, iltB_eq, ileB_eq, ieqB_eq, bytesEq_eq, u8L_ofBytes, isBoolL_ofBools, boolsL_ofBools, bytesL_ofBytes, bytesOf_ofBytes, ofBytes_plainL, ofBools_plainL, ofBytes_length, ofBools_length, packB_length, unB_length, boolsEq_self]; omega)
          | omega)
      replace key := key (by
        (try simp only [kept_eq, boolsL_ofBools, bytesL_ofBytes, hK, hN, hM, mK, mb, pl, f1, f2, f3, e0, pn, tb, g1, g2, g3])
        first
          | done
          | rfl
          | (simp [nbeq, nble, iltB_eq, ileB_eq, ieqB_eq, bytesEq_eq, u8L_ofBytes, isBoolL_ofBools, boolsL_ofBools, bytesL_ofBytes, bytesOf_ofBytes, ofBytes_plainL, ofBools_plainL, ofBytes_length, ofBools_length, packB_length, unB_length, boolsEq_self, tb]; done)
          | (simp [nbeq, nble, iltB_eq, ileB_eq, ieqB_eq, bytesEq_eq, u8L_ofBytes, isBoolL_ofBools, boolsL_ofBools, bytesL_ofBytes, bytesOf_ofBytes, ofBytes_plainL, ofBools_plainL, ofBytes_length, ofBools_length, packB_length, unB_length, boolsEq_self]; omega)
          | omega)
      obtain ⟨h', h, _⟩ := key
      simp only [kept_eq, boolsL_ofBools, bytesL_ofBytes, hK, hN, hM, mK, mb, pl, f1, f2, f3, e0, pn, tb, g1, g2, g3, bytesEq_eq, beq_self_eq_true] at h
      exact ⟨h', h⟩
    | false =>
      have key := wp_noe a0 a1 b.length (ofBytes b) n
      replace key := key (by
        (try simp only [kept_eq, boolsL_ofBools, bytesL_ofBytes, hK, hN, hM, mK, mb, pl, f1, f2, f3, e0, pn, tb, g1])
        first
          | done
          | rfl
          | (simp [nbeq, nble, iltB_eq, ileB_eq, ieqB_eq, bytesEq_eq, u8L_ofBytes, isBoolL_ofBools, boolsL_ofBools, bytesL_ofBytes, bytesOf_ofBytes, ofBytes_plainL, ofBools_plainL, ofBytes_length, ofBools_length, packB_length, unB_length, boolsEq_self, tb]; done)
          | (simp [nbeq, nble, iltB_eq, ileB_eq, ieqB_eq, bytesEq_eq, u8L_ofBytes, isBoolL_ofBools, boolsL_ofBools, bytesL_ofBytes, bytesOf_ofBytes, ofBytes_plainL, ofBools_plainL, ofBytes_length, ofBools_length, packB_length, unB_length, boolsEq_self]; omega)
          | omega)
      replace key := key (by
        (try simp only [kept_eq, boolsL_ofBools, bytesL_ofBytes, hK, hN, hM, mK, mb, pl, f1, f2, f3, e0, pn, tb, g1])
        first
          | done
          | rfl
          | (simp [nbeq, nble, iltB_eq, ileB_eq, ieqB_eq, bytesEq_eq, u8L_ofBytes, isBoolL_ofBools, boolsL_ofBools, bytesL_ofBytes, bytesOf_ofBytes, ofBytes_plainL, ofBools_plainL, ofBytes_length, ofBools_length, packB_length, unB_length, boolsEq_self, tb]; done)
          | (simp [nbeq, nble, iltB_eq, ileB_eq, ieqB_eq, bytesEq_eq, u8L_ofBytes, isBoolL_ofBools, boolsL_ofBools, bytesL_ofBytes, bytesOf_ofBytes, ofBytes_plainL, ofBools_plainL, ofBytes_length, ofBools_length, packB_length, unB_length, boolsEq_self]; omega)
          | omega)
      replace key := key (by
        (try simp only [kept_eq, boolsL_ofBools, bytesL_ofBytes, hK, hN, hM, mK, mb, pl, f1, f2, f3, e0, pn, tb, g1])
        first
          | done
          | rfl
          | (simp [nbeq, nble, iltB_eq, ileB_eq, ieqB_eq, bytesEq_eq, u8L_ofBytes, isBoolL_ofBools, boolsL_ofBools, bytesL_ofBytes, bytesOf_ofBytes, ofBytes_plainL, ofBools_plainL, ofBytes_length, ofBools_length, packB_length, unB_length, boolsEq_self, tb]; done)
          | (simp [nbeq, nble, iltB_eq, ileB_eq, ieqB_eq, bytesEq_eq, u8L_ofBytes, isBoolL_ofBools, boolsL_ofBools, bytesL_ofBytes, bytesOf_ofBytes, ofBytes_plainL, ofBools_plainL, ofBytes_length, ofBools_length, packB_length, unB_length, boolsEq_self]; omega)
          | omega)
      replace key := key (by
        (try simp only [kept_eq, boolsL_ofBools, bytesL_ofBytes, hK, hN, hM, mK, mb, pl, f1, f2, f3, e0, pn, tb, g1])
        first
          | done
          | rfl
          | (simp [nbeq, nble, iltB_eq, ileB_eq, ieqB_eq, bytesEq_eq, u8L_ofBytes, isBoolL_ofBools, boolsL_ofBools, bytesL_ofBytes, bytesOf_ofBytes, ofBytes_plainL, ofBools_plainL, ofBytes_length, ofBools_length, packB_length, unB_length, boolsEq_self, tb]; done)
          | (simp [nbeq, nble, iltB_eq, ileB_eq, ieqB_eq, bytesEq_eq, u8L_ofBytes, isBoolL_ofBools, boolsL_ofBools, bytesL_ofBytes, bytesOf_ofBytes, ofBytes_plainL, ofBools_plainL, ofBytes_length, ofBools_length, packB_length, unB_length, boolsEq_self]; omega)
          | omega)
      replace key := key (by
        (try simp only [kept_eq, boolsL_ofBools, bytesL_ofBytes, hK, hN, hM, mK, mb, pl, f1, f2, f3, e0, pn, tb, g1])
        first
          | done
          | rfl
          | (simp [nbeq, nble, iltB_eq, ileB_eq, ieqB_eq, bytesEq_eq, u8L_ofBytes, isBoolL_ofBools, boolsL_ofBools, bytesL_ofBytes, bytesOf_ofBytes, ofBytes_plainL, ofBools_plainL, ofBytes_length, ofBools_length, packB_length, unB_length, boolsEq_self, tb]; done)
          | (simp [nbeq, nble, iltB_eq, ileB_eq, ieqB_eq, bytesEq_eq, u8L_ofBytes, isBoolL_ofBools, boolsL_ofBools, bytesL_ofBytes, bytesOf_ofBytes, ofBytes_plainL, ofBools_plainL, ofBytes_length, ofBools_length, packB_length, unB_length, boolsEq_self]; omega)
          | omega)
      replace key := key (by
        (try simp only [kept_eq, boolsL_ofBools, bytesL_ofBytes, hK, hN, hM, mK, mb, pl, f1, f2, f3, e0, pn, tb, g1])
        first
          | done
          | rfl
          | (simp [nbeq, nble, iltB_eq, ileB_eq, ieqB_eq, bytesEq_eq, u8L_ofBytes, isBoolL_ofBools, boolsL_ofBools, bytesL_ofBytes, bytesOf_ofBytes, ofBytes_plainL, ofBools_plainL, ofBytes_length, ofBools_length, packB_length, unB_length, boolsEq_self, tb]; done)
          | (simp [nbeq, nble, iltB_eq, ileB_eq, ieqB_eq, bytesEq_eq, u8L_ofBytes, isBoolL_ofBools, boolsL_ofBools, bytesL_ofBytes, bytesOf_ofBytes, ofBytes_plainL, ofBools_plainL, ofBytes_length, ofBools_length, packB_length, unB_length, boolsEq_self]; omega)
          | omega)
      replace key := key (by
        (try simp only [kept_eq, boolsL_ofBools, bytesL_ofBytes, hK, hN, hM, mK, mb, pl, f1, f2, f3, e0, pn, tb, g1])
        first
          | done
          | rfl
          | (simp [nbeq, nble, iltB_eq, ileB_eq, ieqB_eq, bytesEq_eq, u8L_ofBytes, isBoolL_ofBools, boolsL_ofBools, bytesL_ofBytes, bytesOf_ofBytes, ofBytes_plainL, ofBools_plainL, ofBytes_length, ofBools_length, packB_length, unB_length, boolsEq_self, tb]; done)
          | (simp [nbeq, nble, iltB_eq, ileB_eq, ieqB_eq, bytesEq_eq, u8L_ofBytes, isBoolL_ofBools, boolsL_ofBools, bytesL_ofBytes, bytesOf_ofBytes, ofBytes_plainL, ofBools_plainL, ofBytes_length, ofBools_length, packB_length, unB_length, boolsEq_self]; omega)
          | omega)
      replace key := key (by
        (try simp only [kept_eq, boolsL_ofBools, bytesL_ofBytes, hK, hN, hM, mK, mb, pl, f1, f2, f3, e0, pn, tb, g1])
        first
          | done
          | rfl
          | (simp [nbeq, nble, iltB_eq, ileB_eq, ieqB_eq, bytesEq_eq, u8L_ofBytes, isBoolL_ofBools, boolsL_ofBools, bytesL_ofBytes, bytesOf_ofBytes, ofBytes_plainL, ofBools_plainL, ofBytes_length, ofBools_length, packB_length, unB_length, boolsEq_self, tb]; done)
          | (simp [nbeq, nble, iltB_eq, ileB_eq, ieqB_eq, bytesEq_eq, u8L_ofBytes, isBoolL_ofBools, boolsL_ofBools, bytesL_ofBytes, bytesOf_ofBytes, ofBytes_plainL, ofBools_plainL, ofBytes_length, ofBools_length, packB_length, unB_length, boolsEq_self]; omega)
          | omega)
      replace key := key (by
        (try simp only [kept_eq, boolsL_ofBools, bytesL_ofBytes, hK, hN, hM, mK, mb, pl, f1, f2, f3, e0, pn, tb, g1])
        first
          | done
          | rfl
          | (simp [nbeq, nble, iltB_eq, ileB_eq, ieqB_eq, bytesEq_eq, u8L_ofBytes, isBoolL_ofBools, boolsL_ofBools, bytesL_ofBytes, bytesOf_ofBytes, ofBytes_plainL, ofBools_plainL, ofBytes_length, ofBools_length, packB_length, unB_length, boolsEq_self, tb]; done)
          | (simp [nbeq, nble, iltB_eq, ileB_eq, ieqB_eq, bytesEq_eq, u8L_ofBytes, isBoolL_ofBools, boolsL_ofBools, bytesL_ofBytes, bytesOf_ofBytes, ofBytes_plainL, ofBools_plainL, ofBytes_length, ofBools_length, packB_length, unB_length, boolsEq_self]; omega)
          | omega)
      replace key := key (by
        (try simp only [kept_eq, boolsL_ofBools, bytesL_ofBytes, hK, hN, hM, mK, mb, pl, f1, f2, f3, e0, pn, tb, g1])
        first
          | done
          | rfl
          | (simp [nbeq, nble, iltB_eq, ileB_eq, ieqB_eq, bytesEq_eq, u8L_ofBytes, isBoolL_ofBools, boolsL_ofBools, bytesL_ofBytes, bytesOf_ofBytes, ofBytes_plainL, ofBools_plainL, ofBytes_length, ofBools_length, packB_length, unB_length, boolsEq_self, tb]; done)
          | (simp [nbeq, nble, iltB_eq, ileB_eq, ieqB_eq, bytesEq_eq, u8L_ofBytes, isBoolL_ofBools, boolsL_ofBools, bytesL_ofBytes, bytesOf_ofBytes, ofBytes_plainL, ofBools_plainL, ofBytes_length, ofBools_length, packB_length, unB_length, boolsEq_self]; omega)
          | omega)
      replace key := key (by
        (try simp only [kept_eq, boolsL_ofBools, bytesL_ofBytes, hK, hN, hM, mK, mb, pl, f1, f2, f3, e0, pn, tb, g1])
        first
          | done
          | rfl
          | (simp [nbeq, nble, iltB_eq, ileB_eq, ieqB_eq, bytesEq_eq, u8L_ofBytes, isBoolL_ofBools, boolsL_ofBools, bytesL_ofBytes, bytesOf_ofBytes, ofBytes_plainL, ofBools_plainL, ofBytes_length, ofBools_length, packB_length, unB_length, boolsEq_self, tb]; done)
          | (simp [nbeq, nble, iltB_eq, ileB_eq, ieqB_eq, bytesEq_eq, u8L_ofBytes, isBoolL_ofBools, boolsL_ofBools, bytesL_ofBytes, bytesOf_ofBytes, ofBytes_plainL, ofBools_plainL, ofBytes_length, ofBools_length, packB_length, unB_length, boolsEq_self]; omega)
          | omega)
      replace key := key (by
        (try simp only [kept_eq, boolsL_ofBools, bytesL_ofBytes, hK, hN, hM, mK, mb, pl, f1, f2, f3, e0, pn, tb, g1])
        first
          | done
          | rfl
          | (simp [nbeq, nble, iltB_eq, ileB_eq, ieqB_eq, bytesEq_eq, u8L_ofBytes, isBoolL_ofBools, boolsL_ofBools, bytesL_ofBytes, bytesOf_ofBytes, ofBytes_plainL, ofBools_plainL, ofBytes_length, ofBools_length, packB_length, unB_length, boolsEq_self, tb]; done)
          | (simp [nbeq, nble, iltB_eq, ileB_eq, ieqB_eq, bytesEq_eq, u8L_ofBytes, isBoolL_ofBools, boolsL_ofBools, bytesL_ofBytes, bytesOf_ofBytes, ofBytes_plainL, ofBools_plainL, ofBytes_length, ofBools_length, packB_length, unB_length, boolsEq_self]; omega)
          | omega)
      replace key := key (by
        (try simp only [kept_eq, boolsL_ofBools, bytesL_ofBytes, hK, hN, hM, mK, mb, pl, f1, f2, f3, e0, pn, tb, g1])
        first
          | done
          | rfl
          | (simp [nbeq, nble, iltB_eq, ileB_eq, ieqB_eq, bytesEq_eq, u8L_ofBytes, isBoolL_ofBools, boolsL_ofBools, bytesL_ofBytes, bytesOf_ofBytes, ofBytes_plainL, ofBools_plainL, ofBytes_length, ofBools_length, packB_length, unB_length, boolsEq_self, tb]; done)
          | (simp [nbeq, nble, iltB_eq, ileB_eq, ieqB_eq, bytesEq_eq, u8L_ofBytes, isBoolL_ofBools, boolsL_ofBools, bytesL_ofBytes, bytesOf_ofBytes, ofBytes_plainL, ofBools_plainL, ofBytes_length, ofBools_length, packB_length, unB_length, boolsEq_self]; omega)
          | omega)
      replace key := key (by
        (try simp only [kept_eq, boolsL_ofBools, bytesL_ofBytes, hK, hN, hM, mK, mb, pl, f1, f2, f3, e0, pn, tb, g1])
        first
          | done
          | rfl
          | (simp [nbeq, nble, iltB_eq, ileB_eq, ieqB_eq, bytesEq_eq, u8L_ofBytes, isBoolL_ofBools, boolsL_ofBools, bytesL_ofBytes, bytesOf_ofBytes, ofBytes_plainL, ofBools_plainL, ofBytes_length, ofBools_length, packB_length, unB_length, boolsEq_self, tb]; done)
          | (simp [nbeq, nble, iltB_eq, ileB_eq, ieqB_eq, bytesEq_eq, u8L_ofBytes, isBoolL_ofBools, boolsL_ofBools, bytesL_ofBytes, bytesOf_ofBytes, ofBytes_plainL, ofBools_plainL, ofBytes_length, ofBools_length, packB_length, unB_length, boolsEq_self]; omega)
          | omega)
      replace key := key (by
        (try simp only [kept_eq, boolsL_ofBools, bytesL_ofBytes, hK, hN, hM, mK, mb, pl, f1, f2, f3, e0, pn, tb, g1])
        first
          | done
          | rfl
          | (simp [nbeq, nble, iltB_eq, ileB_eq, ieqB_eq, bytesEq_eq, u8L_ofBytes, isBoolL_ofBools, boolsL_ofBools, bytesL_ofBytes, bytesOf_ofBytes, ofBytes_plainL, ofBools_plainL, ofBytes_length, ofBools_length, packB_length, unB_length, boolsEq_self, tb]; done)
          | (simp [nbeq, nble, iltB_eq, ileB_eq, ieqB_eq, bytesEq_eq, u8L_ofBytes, isBoolL_ofBools, boolsL_ofBools, bytesL_ofBytes, bytesOf_ofBytes, ofBytes_plainL, ofBools_plainL, ofBytes_length, ofBools_length, packB_length, unB_length, boolsEq_self]; omega)
          | omega)
      replace key := key (by
        (try simp only [kept_eq, boolsL_ofBools, bytesL_ofBytes, hK, hN, hM, mK, mb, pl, f1, f2, f3, e0, pn, tb, g1])
        first
          | done
          | rfl
          | (simp [nbeq, nble, iltB_eq, ileB_eq, ieqB_eq, bytesEq_eq, u8L_ofBytes, isBoolL_ofBools, boolsL_ofBools, bytesL_ofBytes, bytesOf_ofBytes, ofBytes_plainL, ofBools_plainL, ofBytes_length, ofBools_length, packB_length, unB_length, boolsEq_self, tb]; done)
          | (simp [nbeq, nble, iltB_eq, ileB_eq, ieqB_eq, bytesEq_eq, u8L_ofBytes, isBoolL_ofBools, boolsL_ofBools, bytesL_ofBytes, bytesOf_ofBytes, ofBytes_plainL, ofBools_plainL, ofBytes_length, ofBools_length, packB_length, unB_length, boolsEq_self]; omega)
          | omega)
      replace key := key (by
        (try simp only [kept_eq, boolsL_ofBools, bytesL_ofBytes, hK, hN, hM, mK, mb, pl, f1, f2, f3, e0, pn, tb, g1])
        first
          | done
          | rfl
          | (simp [nbeq, nble, iltB_eq, ileB_eq, ieqB_eq, bytesEq_eq, u8L_ofBytes, isBoolL_ofBools, boolsL_ofBools, bytesL_ofBytes, bytesOf_ofBytes, ofBytes_plainL, ofBools_plainL, ofBytes_length, ofBools_length, packB_length, unB_length, boolsEq_self, tb]; done)
          | (simp [nbeq, nble, iltB_eq, ileB_eq, ieqB_eq, bytesEq_eq, u8L_ofBytes, isBoolL_ofBools, boolsL_ofBools, bytesL_ofBytes, bytesOf_ofBytes, ofBytes_plainL, ofBools_plainL, ofBytes_length, ofBools_length, packB_length, unB_length, boolsEq_self]; omega)
          | omega)
      obtain ⟨h', h, _⟩ := key
      exact ⟨h', h⟩
  case neg =>
    left
    have hl1 : 1 ≤ l.length := by
      cases l with
      | nil => exact absurd rfl hne
      | cons x l => simp
    by_cases hn : n < 0
    case pos =>
      have key := wp_b1 a0 l.length (ofBools l) a1 b.length (ofBytes b) n
      replace key := key (by
        (try simp only [kept_eq, boolsL_ofBools, bytesL_ofBytes, hK, hN, hM, mK, mb, pl, f1, f2, f3])
        first
          | done
          | rfl
          | (simp [nbeq, nble, iltB_eq, ileB_eq, ieqB_eq, bytesEq_eq, u8L_ofBytes, isBoolL_ofBools, boolsL_ofBools, bytesL_ofBytes, bytesOf_ofBytes, ofBytes_plainL, ofBools_plainL, ofBytes_length, ofBools_length, packB_length, unB_length, boolsEq_self]; done)
          | (simp [nbeq, nble, iltB_eq, ileB_eq, ieqB_eq, bytesEq_eq, u8L_ofBytes, isBoolL_ofBools, boolsL_ofBools, bytesL_ofBytes, bytesOf_ofBytes, ofBytes_plainL, ofBools_plainL, ofBytes_length, ofBools_length, packB_length, unB_length, boolsEq_self]; omega)
          | omega)
      replace key := key (by
        (try simp only [kept_eq, boolsL_ofBools, bytesL_ofBytes, hK, hN, hM, mK, mb, pl, f1, f2, f3])
        first
          | done
          | rfl
          | (simp [nbeq, nble, iltB_eq, ileB_eq, ieqB_eq, bytesEq_eq, u8L_ofBytes, isBoolL_ofBools, boolsL_ofBools, bytesL_ofBytes, bytesOf_ofBytes, ofBytes_plainL, ofBools_plainL, ofBytes_length, ofBools_length, packB_length, unB_length, boolsEq_self]; done)
          | (simp [nbeq, nble, iltB_eq, ileB_eq, ieqB_eq, bytesEq_eq, u8L_ofBytes, isBoolL_ofBools, boolsL_ofBools, bytesL_ofBytes, bytesOf_ofBytes, ofBytes_plainL, ofBools_plainL, ofBytes_length, ofBools_length, packB_length, unB_length, boolsEq_self]; omega)
          | omega)
      replace key := key (by
        (try simp only [kept_eq, boolsL_ofBools, bytesL_ofBytes, hK, hN, hM, mK, mb, pl, f1, f2, f3])
        first
          | done
          | rfl
          | (simp [nbeq, nble, iltB_eq, ileB_eq, ieqB_eq, bytesEq_eq, u8L_ofBytes, isBoolL_ofBools, boolsL_ofBools, bytesL_ofBytes, bytesOf_ofBytes, ofBytes_plainL, ofBools_plainL, ofBytes_length, ofBools_length, packB_length, unB_length, boolsEq_self]; done)
          | (simp [nbeq, nble, iltB_eq, ileB_eq, ieqB_eq, bytesEq_eq, u8L_ofBytes, isBoolL_ofBools, boolsL_ofBools, bytesL_ofBytes, bytesOf_ofBytes, ofBytes_plainL, ofBools_plainL, ofBytes_length, ofBools_length, packB_length, unB_length, boolsEq_self]; omega)
          | omega)
      replace key := key (by
        (try simp only [kept_eq, boolsL_ofBools, bytesL_ofBytes, hK, hN, hM, mK, mb, pl, f1, f2, f3])
        first
          | done
          | rfl
          | (simp [nbeq, nble, iltB_eq, ileB_eq, ieqB_eq, bytesEq_eq, u8L_ofBytes, isBoolL_ofBools, boolsL_ofBools, bytesL_ofBytes, bytesOf_ofBytes, ofBytes_plainL, ofBools_plainL, ofBytes_length, ofBools_length, packB_length, unB_length, boolsEq_self]; done)
          | (simp [nbeq, nble, iltB_eq, ileB_eq, ieqB_eq, bytesEq_eq, u8L_ofBytes, isBoolL_ofBools, boolsL_ofBools, bytesL_ofBytes, bytesOf_ofBytes, ofBytes_plainL, ofBools_plainL, ofBytes_length, ofBools_length, packB_length, unB_length, boolsEq_self]; omega)
          | omega)
      replace key := key (by
        (try simp only [kept_eq, boolsL_ofBools, bytesL_ofBytes, hK, hN, hM, mK, mb, pl, f1, f2, f3])
        first
          | done
          | rfl
          | (simp [nbeq, nble, iltB_eq, ileB_eq, ieqB_eq, bytesEq_eq, u8L_ofBytes, isBoolL_ofBools, boolsL_ofBools, bytesL_ofBytes, bytesOf_ofBytes, ofBytes_plainL, ofBools_plainL, ofBytes_length, ofBools_length, packB_length, unB_length, boolsEq_self]; done)
          | (simp [nbeq, nble, iltB_eq, ileB_eq, ieqB_eq, bytesEq_eq, u8L_ofBytes, isBoolL_ofBools, boolsL_ofBools, bytesL_ofBytes, bytesOf_ofBytes, ofBytes_plainL, ofBools_plainL, ofBytes_length, ofBools_length, packB_length, unB_length, boolsEq_self]; omega)
          | omega)
      replace key := key (by
        (try simp only [kept_eq, boolsL_ofBools, bytesL_ofBytes, hK, hN, hM, mK, mb, pl, f1, f2, f3])
        first
          | done
          | rfl
          | (simp [nbeq, nble, iltB_eq, ileB_eq, ieqB_eq, bytesEq_eq, u8L_ofBytes, isBoolL_ofBools, boolsL_ofBools, bytesL_ofBytes, bytesOf_ofBytes, ofBytes_plainL, ofBools_plainL, ofBytes_length, ofBools_length, packB_length, unB_length, boolsEq_self]; done)
          | (simp [nbeq, nble, iltB_eq, ileB_eq, ieqB_eq, bytesEq_eq, u8L_ofBytes, isBoolL_ofBools, boolsL_ofBools, bytesL_ofBytes, bytesOf_ofBytes, ofBytes_plainL, ofBools_plainL, ofBytes_length, ofBools_length, packB_length, unB_length, boolsEq_self]; omega)
          | omega)
      replace key := key (by
        (try simp only [kept_eq, boolsL_ofBools, bytesL_ofBytes, hK, hN, hM, mK, mb, pl, f1, f2, f3])
        first
          | done
          | rfl
          | (simp [nbeq, nble, iltB_eq, ileB_eq, ieqB_eq, bytesEq_eq, u8L_ofBytes, isBoolL_ofBools, boolsL_ofBools, bytesL_ofBytes, bytesOf_ofBytes, ofBytes_plainL, ofBools_plainL, ofBytes_length, ofBools_length, packB_length, unB_length, boolsEq_self]; done)
          | (simp [nbeq, nble, iltB_eq, ileB_eq, ieqB_eq, bytesEq_eq, u8L_ofBytes, isBoolL_ofBools, boolsL_ofBools, bytesL_ofBytes, bytesOf_ofBytes, ofBytes_plainL, ofBools_plainL, ofBytes_length, ofBools_length, packB_length, unB_length, boolsEq_self]; omega)
          | omega)
      replace key := key (by
        (try simp only [kept_eq, boolsL_ofBools, bytesL_ofBytes, hK, hN, hM, mK, mb, pl, f1, f2, f3])
        first
          | done
          | rfl
          | (simp [nbeq, nble, iltB_eq, ileB_eq, ieqB_eq, bytesEq_eq, u8L_ofBytes, isBoolL_ofBools, boolsL_ofBools, bytesL_ofBytes, bytesOf_ofBytes, ofBytes_plainL, ofBools_plainL, ofBytes_length, ofBools_length, packB_length, unB_length, boolsEq_self]; done)
          | (simp [nbeq, nble, iltB_eq, ileB_eq, ieqB_eq, bytesEq_eq, u8L_ofBytes, isBoolL_ofBools, boolsL_ofBools, bytesL_ofBytes, bytesOf_ofBytes, ofBytes_plainL, ofBools_plainL, ofBytes_length, ofBools_length, packB_length, unB_length, boolsEq_self]; omega)
          | omega)
      replace key := key (by
        (try simp only [kept_eq, boolsL_ofBools, bytesL_ofBytes, hK, hN, hM, mK, mb, pl, f1, f2, f3])
        first
          | done
          | rfl
          | (simp [nbeq, nble, iltB_eq, ileB_eq, ieqB_eq, bytesEq_eq, u8L_ofBytes, isBoolL_ofBools, boolsL_ofBools, bytesL_ofBytes, bytesOf_ofBytes, ofBytes_plainL, ofBools_plainL, ofBytes_length, ofBools_length, packB_length, unB_length, boolsEq_self]; done)
          | (simp [nbeq, nble, iltB_eq, ileB_eq, ieqB_eq, bytesEq_eq, u8L_ofBytes, isBoolL_ofBools, boolsL_ofBools, bytesL_ofBytes, bytesOf_ofBytes, ofBytes_plainL, ofBools_plainL, ofBytes_length, ofBools_length, packB_length, unB_length, boolsEq_self]; omega)
          | omega)
      replace key := key (by
        (try simp only [kept_eq, boolsL_ofBools, bytesL_ofBytes, hK, hN, hM, mK, mb, pl, f1, f2, f3])
        first
          | done
          | rfl
          | (simp [nbeq, nble, iltB_eq, ileB_eq, ieqB_eq, bytesEq_eq, u8L_ofBytes, isBoolL_ofBools, boolsL_ofBools, bytesL_ofBytes, bytesOf_ofBytes, ofBytes_plainL, ofBools_plainL, ofBytes_length, ofBools_length, packB_length, unB_length, boolsEq_self]; done)
          | (simp [nbeq, nble, iltB_eq, ileB_eq, ieqB_eq, bytesEq_eq, u8L_ofBytes, isBoolL_ofBools, boolsL_ofBools, bytesL_ofBytes, bytesOf_ofBytes, ofBytes_plainL, ofBools_plainL, ofBytes_length, ofBools_length, packB_length, unB_length, boolsEq_self]; omega)
          | omega)
      replace key := key (by
        (try simp only [kept_eq, boolsL_ofBools, bytesL_ofBytes, hK, hN, hM, mK, mb, pl, f1, f2, f3])
        first
          | done
          | rfl
          | (simp [nbeq, nble, iltB_eq, ileB_eq, ieqB_eq, bytesEq_eq, u8L_ofBytes, isBoolL_ofBools, boolsL_ofBools, bytesL_ofBytes, bytesOf_ofBytes, ofBytes_plainL, ofBools_plainL, ofBytes_length, ofBools_length, packB_length, unB_length, boolsEq_self]; done)
          | (simp [nbeq, nble, iltB_eq, ileB_eq, ieqB_eq, bytesEq_eq, u8L_ofBytes, isBoolL_ofBools, boolsL_ofBools, bytesL_ofBytes, bytesOf_ofBytes, ofBytes_plainL, ofBools_plainL, ofBytes_length, ofBools_length, packB_length, unB_length, boolsEq_self]; omega)
          | omega)
      replace key := key (by
        (try simp only [kept_eq, boolsL_ofBools, bytesL_ofBytes, hK, hN, hM, mK, mb, pl, f1, f2, f3])
        first
          | done
          | rfl
          | (simp [nbeq, nble, iltB_eq, ileB_eq, ieqB_eq, bytesEq_eq, u8L_ofBytes, isBoolL_ofBools, boolsL_ofBools, bytesL_ofBytes, bytesOf_ofBytes, ofBytes_plainL, ofBools_plainL, ofBytes_length, ofBools_length, packB_length, unB_length, boolsEq_self]; done)
          | (simp [nbeq, nble, iltB_eq, ileB_eq, ieqB_eq, bytesEq_eq, u8L_ofBytes, isBoolL_ofBools, boolsL_ofBools, bytesL_ofBytes, bytesOf_ofBytes, ofBytes_plainL, ofBools_plainL, ofBytes_length, ofBools_length, packB_length, unB_length, boolsEq_self]; omega)
          | omega)
      replace key := key (by
        (try simp only [kept_eq, boolsL_ofBools, bytesL_ofBytes, hK, hN, hM, mK, mb, pl, f1, f2, f3])
        first
          | done
          | rfl
          | (simp [nbeq, nble, iltB_eq, ileB_eq, ieqB_eq, bytesEq_eq, u8L_ofBytes, isBoolL_ofBools, boolsL_ofBools, bytesL_ofBytes, bytesOf_ofBytes, ofBytes_plainL, ofBools_plainL, ofBytes_length, ofBools_length, packB_length, unB_length, boolsEq_self]; done)
          | (simp [nbeq, nble, iltB_eq, ileB_eq, ieqB_eq, bytesEq_eq, u8L_ofBytes, isBoolL_ofBools, boolsL_ofBools, bytesL_ofBytes, bytesOf_ofBytes, ofBytes_plainL, ofBools_plainL, ofBytes_length, ofBools_length, packB_length, unB_length, boolsEq_self]; omega)
          | omega)
      replace key := key (by
        (try simp only [kept_eq, boolsL_ofBools, bytesL_ofBytes, hK, hN, hM, mK, mb, pl, f1, f2, f3])
        first
          | done
          | rfl
          | (simp [nbeq, nble, iltB_eq, ileB_eq, ieqB_eq, bytesEq_eq, u8L_ofBytes, isBoolL_ofBools, boolsL_ofBools, bytesL_ofBytes, bytesOf_ofBytes, ofBytes_plainL, ofBools_plainL, ofBytes_length, ofBools_length, packB_length, unB_length, boolsEq_self]; done)
          | (simp [nbeq, nble, iltB_eq, ileB_eq, ieqB_eq, bytesEq_eq, u8L_ofBytes, isBoolL_ofBools, boolsL_ofBools, bytesL_ofBytes, bytesOf_ofBytes, ofBytes_plainL, ofBools_plainL, ofBytes_length, ofBools_length, packB_length, unB_length, boolsEq_self]; omega)
          | omega)
      replace key := key (by
        (try simp only [kept_eq, boolsL_ofBools, bytesL_ofBytes, hK, hN, hM, mK, mb, pl, f1, f2, f3])
        first
          | done
          | rfl
          | (simp [nbeq, nble, iltB_eq, ileB_eq, ieqB_eq, bytesEq_eq, u8L_ofBytes, isBoolL_ofBools, boolsL_ofBools, bytesL_ofBytes, bytesOf_ofBytes, ofBytes_plainL, ofBools_plainL, ofBytes_length, ofBools_length, packB_length, unB_length, boolsEq_self]; done)
          | (simp [nbeq, nble, iltB_eq, ileB_eq, ieqB_eq, bytesEq_eq, u8L_ofBytes, isBoolL_ofBools, boolsL_ofBools, bytesL_ofBytes, bytesOf_ofBytes, ofBytes_plainL, ofBools_plainL, ofBytes_length, ofBools_length, packB_length, unB_length, boolsEq_self]; omega)
          | omega)
      replace key := key (by
        (try simp only [kept_eq, boolsL_ofBools, bytesL_ofBytes, hK, hN, hM, mK, mb, pl, f1, f2, f3])
        first
          | done
          | rfl
          | (simp [nbeq, nble, iltB_eq, ileB_eq, ieqB_eq, bytesEq_eq, u8L_ofBytes, isBoolL_ofBools, boolsL_ofBools, bytesL_ofBytes, bytesOf_ofBytes, ofBytes_plainL, ofBools_plainL, ofBytes_length, ofBools_length, packB_length, unB_length, boolsEq_self]; done)
          | (simp [nbeq, nble, iltB_eq, ileB_eq, ieqB_eq, bytesEq_eq, u8L_ofBytes, isBoolL_ofBools, boolsL_ofBools, bytesL_ofBytes, bytesOf_ofBytes, ofBytes_plainL, ofBools_plainL, ofBytes_length, ofBools_length, packB_length, unB_length, boolsEq_self]; omega)
          | omega)
      replace key := key (by
        (try simp only [kept_eq, boolsL_ofBools, bytesL_ofBytes, hK, hN, hM, mK, mb, pl, f1, f2, f3])
        first
          | done
          | rfl
          | (simp [nbeq, nble, iltB_eq, ileB_eq, ieqB_eq, bytesEq_eq, u8L_ofBytes, isBoolL_ofBools, boolsL_ofBools, bytesL_ofBytes, bytesOf_ofBytes, ofBytes_plainL, ofBools_plainL, ofBytes_length, ofBools_length, packB_length, unB_length, boolsEq_self]; done)
          | (simp [nbeq, nble, iltB_eq, ileB_eq, ieqB_eq, bytesEq_eq, u8L_ofBytes, isBoolL_ofBools, boolsL_ofBools, bytesL_ofBytes, bytesOf_ofBytes, ofBytes_plainL, ofBools_plainL, ofBytes_length, ofBools_length, packB_length, unB_length, boolsEq_self]; omega)
          | omega)
      replace key := key (by
        (try simp only [kept_eq, boolsL_ofBools, bytesL_ofBytes, hK, hN, hM, mK, mb, pl, f1, f2, f3])
        first
          | done
          | rfl
          | (simp [nbeq, nble, iltB_eq, ileB_eq, ieqB_eq, bytesEq_eq, u8L_ofBytes, isBoolL_ofBools, boolsL_ofBools, bytesL_ofBytes, bytesOf_ofBytes, ofBytes_plainL, ofBools_plainL, ofBytes_length, ofBools_length, packB_length, unB_length, boolsEq_self]; done)
          | (simp [nbeq, nble, iltB_eq, ileB_eq, ieqB_eq, bytesEq_eq, u8L_ofBytes, isBoolL_ofBools, boolsL_ofBools, bytesL_ofBytes, bytesOf_ofBytes, ofBytes_plainL, ofBools_plainL, ofBytes_length, ofBools_length, packB_length, unB_length, boolsEq_self]; omega)
          | omega)
      replace key := key (by
        (try simp only [kept_eq, boolsL_ofBools, bytesL_ofBytes, hK, hN, hM, mK, mb, pl, f1, f2, f3])
        first
          | done
          | rfl
          | (simp [nbeq, nble, iltB_eq, ileB_eq, ieqB_eq, bytesEq_eq, u8L_ofBytes, isBoolL_ofBools, boolsL_ofBools, bytesL_ofBytes, bytesOf_ofBytes, ofBytes_plainL, ofBools_plainL, ofBytes_length, ofBools_length, packB_length, unB_length, boolsEq_self]; done)
          | (simp [nbeq, nble, iltB_eq, ileB_eq, ieqB_eq, bytesEq_eq, u8L_ofBytes, isBoolL_ofBools, boolsL_ofBools, bytesL_ofBytes, bytesOf_ofBytes, ofBytes_plainL, ofBools_plainL, ofBytes_length, ofBools_length, packB_length, unB_length, boolsEq_self]; omega)
          | omega)
      replace key := key (by
        (try simp only [kept_eq, boolsL_ofBools, bytesL_ofBytes, hK, hN, hM, mK, mb, pl, f1, f2, f3])
        first
          | done
          | rfl
          | (simp [nbeq, nble, iltB_eq, ileB_eq, ieqB_eq, bytesEq_eq, u8L_ofBytes, isBoolL_ofBools, boolsL_ofBools, bytesL_ofBytes, bytesOf_ofBytes, ofBytes_plainL, ofBools_plainL, ofBytes_length, ofBools_length, packB_length, unB_length, boolsEq_self]; done)
          | (simp [nbeq, nble, iltB_eq, ileB_eq, ieqB_eq, bytesEq_eq, u8L_ofBytes, isBoolL_ofBools, boolsL_ofBools, bytesL_ofBytes, bytesOf_ofBytes, ofBytes_plainL, ofBools_plainL, ofBytes_length, ofBools_length, packB_length, unB_length, boolsEq_self]; omega)
          | omega)
      replace key := key (by
        (try simp only [kept_eq, boolsL_ofBools, bytesL_ofBytes, hK, hN, hM, mK, mb, pl, f1, f2, f3])
        first
          | done
          | rfl
          | (simp [nbeq, nble, iltB_eq, ileB_eq, ieqB_eq, bytesEq_eq, u8L_ofBytes, isBoolL_ofBools, boolsL_ofBools, bytesL_ofBytes, bytesOf_ofBytes, ofBytes_plainL, ofBools_plainL, ofBytes_length, ofBools_length, packB_length, unB_length, boolsEq_self]; done)
          | (simp [nbeq, nble, iltB_eq, ileB_eq, ieqB_eq, bytesEq_eq, u8L_ofBytes, isBoolL_ofBools, boolsL_ofBools, bytesL_ofBytes, bytesOf_ofBytes, ofBytes_plainL, ofBools_plainL, ofBytes_length, ofBools_length, packB_length, unB_length, boolsEq_self]; omega)
          | omega)
      replace key := key (by
        (try simp only [kept_eq, boolsL_ofBools, bytesL_ofBytes, hK, hN, hM, mK, mb, pl, f1, f2, f3])
        first
          | done
          | rfl
          | (simp [nbeq, nble, iltB_eq, ileB_eq, ieqB_eq, bytesEq_eq, u8L_ofBytes, isBoolL_ofBools, boolsL_ofBools, bytesL_ofBytes, bytesOf_ofBytes, ofBytes_plainL, ofBools_plainL, ofBytes_length, ofBools_length, packB_length, unB_length, boolsEq_self]; done)
          | (simp [nbeq, nble, iltB_eq, ileB_eq, ieqB_eq, bytesEq_eq, u8L_ofBytes, isBoolL_ofBools, boolsL_ofBools, bytesL_ofBytes, bytesOf_ofBytes, ofBytes_plainL, ofBools_plainL, ofBytes_length, ofBools_length, packB_length, unB_length, boolsEq_self]; omega)
          | omega)
      replace key := key (by
        (try simp only [kept_eq, boolsL_ofBools, bytesL_ofBytes, hK, hN, hM, mK, mb, pl, f1, f2, f3])
        first
          | done
          | rfl
          | (simp [nbeq, nble, iltB_eq, ileB_eq, ieqB_eq, bytesEq_eq, u8L_ofBytes, isBoolL_ofBools, boolsL_ofBools, bytesL_ofBytes, bytesOf_ofBytes, ofBytes_plainL, ofBools_plainL, ofBytes_length, ofBools_length, packB_length, unB_length, boolsEq_self]; done)
          | (simp [nbeq, nble, iltB_eq, ileB_eq, ieqB_eq, bytesEq_eq, u8L_ofBytes, isBoolL_ofBools, boolsL_ofBools, bytesL_ofBytes, bytesOf_ofBytes, ofBytes_plainL, ofBools_plainL, ofBytes_length, ofBools_length, packB_length, unB_length, boolsEq_self]; omega)
          | omega)
      replace key := key (by
        (try simp only [kept_eq, boolsL_ofBools, bytesL_ofBytes, hK, hN, hM, mK, mb, pl, f1, f2, f3])
        first
          | done
          | rfl
          | (simp [nbeq, nble, iltB_eq, ileB_eq, ieqB_eq, bytesEq_eq, u8L_ofBytes, isBoolL_ofBools, boolsL_ofBools, bytesL_ofBytes, bytesOf_ofBytes, ofBytes_plainL, ofBools_plainL, ofBytes_length, ofBools_length, packB_length, unB_length, boolsEq_self]; done)
          | (simp [nbeq, nble, iltB_eq, ileB_eq, ieqB_eq, bytesEq_eq, u8L_ofBytes, isBoolL_ofBools, boolsL_ofBools, bytesL_ofBytes, bytesOf_ofBytes, ofBytes_plainL, ofBools_plainL, ofBytes_length, ofBools_length, packB_length, unB_length, boolsEq_self]; omega)
          | omega)
      replace key := key (by
        (try simp only [kept_eq, boolsL_ofBools, bytesL_ofBytes, hK, hN, hM, mK, mb, pl, f1, f2, f3])
        first
          | done
          | rfl
          | (simp [nbeq, nble, iltB_eq, ileB_eq, ieqB_eq, bytesEq_eq, u8L_ofBytes, isBoolL_ofBools, boolsL_ofBools, bytesL_ofBytes, bytesOf_ofBytes, ofBytes_plainL, ofBools_plainL, ofBytes_length, ofBools_length, packB_length, unB_length, boolsEq_self]; done)
          | (simp [nbeq, nble, iltB_eq, ileB_eq, ieqB_eq, bytesEq_eq, u8L_ofBytes, isBoolL_ofBools, boolsL_ofBools, bytesL_ofBytes, bytesOf_ofBytes, ofBytes_plainL, ofBools_plainL, ofBytes_length, ofBools_length, packB_length, unB_length, boolsEq_self]; omega)
          | omega)
      replace key := key (by
        (try simp only [kept_eq, boolsL_ofBools, bytesL_ofBytes, hK, hN, hM, mK, mb, pl, f1, f2, f3])
        first
          | done
          | rfl
          | (simp [nbeq, nble, iltB_eq, ileB_eq, ieqB_eq, bytesEq_eq, u8L_ofBytes, isBoolL_ofBools, boolsL_ofBools, bytesL_ofBytes, bytesOf_ofBytes, ofBytes_plainL, ofBools_plainL, ofBytes_length, ofBools_length, packB_length, unB_length, boolsEq_self]; done)
          | (simp [nbeq, nble, iltB_eq, ileB_eq, ieqB_eq, bytesEq_eq, u8L_ofBytes, isBoolL_ofBools, boolsL_ofBools, bytesL_ofBytes, bytesOf_ofBytes, ofBytes_plainL, ofBools_plainL, ofBytes_length, ofBools_length, packB_length, unB_length, boolsEq_self]; omega)
          | omega)
      replace key := key (by
        (try simp only [kept_eq, boolsL_ofBools, bytesL_ofBytes, hK, hN, hM, mK, mb, pl, f1, f2, f3])
        first
          | done
          | rfl
          | (simp [nbeq, nble, iltB_eq, ileB_eq, ieqB_eq, bytesEq_eq, u8L_ofBytes, isBoolL_ofBools, boolsL_ofBools, bytesL_ofBytes, bytesOf_ofBytes, ofBytes_plainL, ofBools_plainL, ofBytes_length, ofBools_length, packB_length, unB_length, boolsEq_self]; done)
          | (simp [nbeq, nble, iltB_eq, ileB_eq, ieqB_eq, bytesEq_eq, u8L_ofBytes, isBoolL_ofBools, boolsL_ofBools, bytesL_ofBytes, bytesOf_ofBytes, ofBytes_plainL, ofBools_plainL, ofBytes_length, ofBools_length, packB_length, unB_length, boolsEq_self]; omega)
          | omega)
      replace key := key (by
        (try simp only [kept_eq, boolsL_ofBools, bytesL_ofBytes, hK, hN, hM, mK, mb, pl, f1, f2, f3])
        first
          | done
          | rfl
          | (simp [nbeq, nble, iltB_eq, ileB_eq, ieqB_eq, bytesEq_eq, u8L_ofBytes, isBoolL_ofBools, boolsL_ofBools, bytesL_ofBytes, bytesOf_ofBytes, ofBytes_plainL, ofBools_plainL, ofBytes_length, ofBools_length, packB_length, unB_length, boolsEq_self]; done)
          | (simp [nbeq, nble, iltB_eq, ileB_eq, ieqB_eq, bytesEq_eq, u8L_ofBytes, isBoolL_ofBools, boolsL_ofBools, bytesL_ofBytes, bytesOf_ofBytes, ofBytes_plainL, ofBools_plainL, ofBytes_length, ofBools_length, packB_length, unB_length, boolsEq_self]; omega)
          | omega)
      replace key := key (by
        (try simp only [kept_eq, boolsL_ofBools, bytesL_ofBytes, hK, hN, hM, mK, mb, pl, f1, f2, f3])
        first
          | done
          | rfl
          | (simp [nbeq, nble, iltB_eq, ileB_eq, ieqB_eq, bytesEq_eq, u8L_ofBytes, isBoolL_ofBools, boolsL_ofBools, bytesL_ofBytes, bytesOf_ofBytes, ofBytes_plainL, ofBools_plainL, ofBytes_length, ofBools_length, packB_length, unB_length, boolsEq_self]; done)
          | (simp [nbeq, nble, iltB_eq, ileB_eq, ieqB_eq, bytesEq_eq, u8L_ofBytes, isBoolL_ofBools, boolsL_ofBools, bytesL_ofBytes, bytesOf_ofBytes, ofBytes_plainL, ofBools_plainL, ofBytes_length, ofBools_length, packB_length, unB_length, boolsEq_self]; omega)
          | omega)
      obtain ⟨h', h, _⟩ := key
      exact ⟨h', h⟩
    obtain ⟨n, rfl⟩ : ∃ k : Nat, n = Int.ofNat k := ⟨n.toNat, by show n = (n.toNat : Int); omega⟩
    clear hn
    by_cases h2 : 8 * b.length < n
    case pos =>
      have key := wp_b2 a0 l.length (ofBools l) a1 b.length (ofBytes b) n
      replace key := key (by
        (try simp only [kept_eq, boolsL_ofBools, bytesL_ofBytes, hK, hN, hM, mK, mb, pl, f1, f2, f3])
        first
          | done
          | rfl
          | (simp [nbeq, nble, iltB_eq, ileB_eq, ieqB_eq, bytesEq_eq, u8L_ofBytes, isBoolL_ofBools, boolsL_ofBools, bytesL_ofBytes, bytesOf_ofBytes, ofBytes_plainL, ofBools_plainL, ofBytes_length, ofBools_length, packB_length, unB_length, boolsEq_self]; done)
          | (simp [nbeq, nble, iltB_eq, ileB_eq, ieqB_eq, bytesEq_eq, u8L_ofBytes, isBoolL_ofBools, boolsL_ofBools, bytesL_ofBytes, bytesOf_ofBytes, ofBytes_plainL, ofBools_plainL, ofBytes_length, ofBools_length, packB_length, unB_length, boolsEq_self]; omega)
          | omega)
      replace key := key (by
        (try simp only [kept_eq, boolsL_ofBools, bytesL_ofBytes, hK, hN, hM, mK, mb, pl, f1, f2, f3])
        first
          | done
          | rfl
          | (simp [nbeq, nble, iltB_eq, ileB_eq, ieqB_eq, bytesEq_eq, u8L_ofBytes, isBoolL_ofBools, boolsL_ofBools, bytesL_ofBytes, bytesOf_ofBytes, ofBytes_plainL, ofBools_plainL, ofBytes_length, ofBools_length, packB_length, unB_length, boolsEq_self]; done)
          | (simp [nbeq, nble, iltB_eq, ileB_eq, ieqB_eq, bytesEq_eq, u8L_ofBytes, isBoolL_ofBools, boolsL_ofBools, bytesL_ofBytes, bytesOf_ofBytes, ofBytes_plainL, ofBools_plainL, ofBytes_length, ofBools_length, packB_length, unB_length, boolsEq_self]; omega)
          | omega)
      replace key := key (by
        (try simp only [kept_eq, boolsL_ofBools, bytesL_ofBytes, hK, hN, hM, mK, mb, pl, f1, f2, f3])
        first
          | done
          | rfl
          | (simp [nbeq, nble, iltB_eq, ileB_eq, ieqB_eq, bytesEq_eq, u8L_ofBytes, isBoolL_ofBools, boolsL_ofBools, bytesL_ofBytes, bytesOf_ofBytes, ofBytes_plainL, ofBools_plainL, ofBytes_length, ofBools_length, packB_length, unB_length, boolsEq_self]; done)
          | (simp [nbeq, nble, iltB_eq, ileB_eq, ieqB_eq, bytesEq_eq, u8L_ofBytes, isBoolL_ofBools, boolsL_ofBools, bytesL_ofBytes, bytesOf_ofBytes, ofBytes_plainL, ofBools_plainL, ofBytes_length, ofBools_length, packB_length, unB_length, boolsEq_self]; omega)
          | omega)
      replace key := key (by
        (try simp only [kept_eq, boolsL_ofBools, bytesL_ofBytes, hK, hN, hM, mK, mb, pl, f1, f2, f3])
        first
          | done
          | rfl
          | (simp [nbeq, nble, iltB_eq, ileB_eq, ieqB_eq, bytesEq_eq, u8L_ofBytes, isBoolL_ofBools, boolsL_ofBools, bytesL_ofBytes, bytesOf_ofBytes, ofBytes_plainL, ofBools_plainL, ofBytes_length, ofBools_length, packB_length, unB_length, boolsEq_self]; done)
          | (simp [nbeq, nble, iltB_eq, ileB_eq, ieqB_eq, bytesEq_eq, u8L_ofBytes, isBoolL_ofBools, boolsL_ofBools, bytesL_ofBytes, bytesOf_ofBytes, ofBytes_plainL, ofBools_plainL, ofBytes_length, ofBools_length, packB_length, unB_length, boolsEq_self]; omega)
          | omega)
      replace key := key (by
        (try simp only [kept_eq, boolsL_ofBools, bytesL_ofBytes, hK, hN, hM, mK, mb, pl, f1, f2, f3])
        first
          | done
          | rfl
          | (simp [nbeq, nble, iltB_eq, ileB_eq, ieqB_eq, bytesEq_eq, u8L_ofBytes, isBoolL_ofBools, boolsL_ofBools, bytesL_ofBytes, bytesOf_ofBytes, ofBytes_plainL, ofBools_plainL, ofBytes_length, ofBools_length, packB_length, unB_length, boolsEq_self]; done)
          | (simp [nbeq, nble, iltB_eq, ileB_eq, ieqB_eq, bytesEq_eq, u8L_ofBytes, isBoolL_ofBools, boolsL_ofBools, bytesL_ofBytes, bytesOf_ofBytes, ofBytes_plainL, ofBools_plainL, ofBytes_length, ofBools_length, packB_length, unB_length, boolsEq_self]; omega)
          | omega)
      replace key := key (by
        (try simp only [kept_eq, boolsL_ofBools, bytesL_ofBytes, hK, hN, hM, mK, mb, pl, f1, f2, f3])
        first
          | done
          | rfl
          | (simp [nbeq, nble, iltB_eq, ileB_eq, ieqB_eq, bytesEq_eq, u8L_ofBytes, isBoolL_ofBools, boolsL_ofBools, bytesL_ofBytes, bytesOf_ofBytes, ofBytes_plainL, ofBools_plainL, ofBytes_length, ofBools_length, packB_length, unB_length, boolsEq_self]; done)
          | (simp [nbeq, nble, iltB_eq, ileB_eq, ieqB_eq, bytesEq_eq, u8L_ofBytes, isBoolL_ofBools, boolsL_ofBools, bytesL_ofBytes, bytesOf_ofBytes, ofBytes_plainL, ofBools_plainL, ofBytes_length, ofBools_length, packB_length, unB_length, boolsEq_self]; omega)
          | omega)
      replace key := key (by
        (try simp only [kept_eq, boolsL_ofBools, bytesL_ofBytes, hK, hN, hM, mK, mb, pl, f1, f2, f3])
        first
          | done
          | rfl
          | (simp [nbeq, nble, iltB_eq, ileB_eq, ieqB_eq, bytesEq_eq, u8L_ofBytes, isBoolL_ofBools, boolsL_ofBools, bytesL_ofBytes, bytesOf_ofBytes, ofBytes_plainL, ofBools_plainL, ofBytes_length, ofBools_length, packB_length, unB_length, boolsEq_self]; done)
          | (simp [nbeq, nble, iltB_eq, ileB_eq, ieqB_eq, bytesEq_eq, u8L_ofBytes, isBoolL_ofBools, boolsL_ofBools, bytesL_ofBytes, bytesOf_ofBytes, ofBytes_plainL, ofBools_plainL, ofBytes_length, ofBools_length, packB_length, unB_length, boolsEq_self]; omega)
          | omega)
      replace key := key (by
        (try simp only [kept_eq, boolsL_ofBools, bytesL_ofBytes, hK, hN, hM, mK, mb, pl, f1, f2, f3])
        first
          | done
          | rfl
          | (simp [nbeq, nble, iltB_eq, ileB_eq, ieqB_eq, bytesEq_eq, u8L_ofBytes, isBoolL_ofBools, boolsL_ofBools, bytesL_ofBytes, bytesOf_ofBytes, ofBytes_plainL, ofBools_plainL, ofBytes_length, ofBools_length, packB_length, unB_length, boolsEq_self]; done)
          | (simp [nbeq, nble, iltB_eq, ileB_eq, ieqB_eq, bytesEq_eq, u8L_ofBytes, isBoolL_ofBools, boolsL_ofBools, bytesL_ofBytes, bytesOf_ofBytes, ofBytes_plainL, ofBools_plainL, ofBytes_length, ofBools_length, packB_length, unB_length, boolsEq_self]; omega)
          | omega)
      replace key := key (by
        (try simp only [kept_eq, boolsL_ofBools, bytesL_ofBytes, hK, hN, hM, mK, mb, pl, f1, f2, f3])
        first
          | done
          | rfl
          | (simp [nbeq, nble, iltB_eq, ileB_eq, ieqB_eq, bytesEq_eq, u8L_ofBytes, isBoolL_ofBools, boolsL_ofBools, bytesL_ofBytes, bytesOf_ofBytes, ofBytes_plainL, ofBools_plainL, ofBytes_length, ofBools_length, packB_length, unB_length, boolsEq_self]; done)
          | (simp [nbeq, nble, iltB_eq, ileB_eq, ieqB_eq, bytesEq_eq, u8L_ofBytes, isBoolL_ofBools, boolsL_ofBools, bytesL_ofBytes, bytesOf_ofBytes, ofBytes_plainL, ofBools_plainL, ofBytes_length, ofBools_length, packB_length, unB_length, boolsEq_self]; omega)
          | omega)
      replace key := key (by
        (try simp only [kept_eq, boolsL_ofBools, bytesL_ofBytes, hK, hN, hM, mK, mb, pl, f1, f2, f3])
        first
          | done
          | rfl
          | (simp [nbeq, nble, iltB_eq, ileB_eq, ieqB_eq, bytesEq_eq, u8L_ofBytes, isBoolL_ofBools, boolsL_ofBools, bytesL_ofBytes, bytesOf_ofBytes, ofBytes_plainL, ofBools_plainL, ofBytes_length, ofBools_length, packB_length, unB_length, boolsEq_self]; done)
          | (simp [nbeq, nble, iltB_eq, ileB_eq, ieqB_eq, bytesEq_eq, u8L_ofBytes, isBoolL_ofBools, boolsL_ofBools, bytesL_ofBytes, bytesOf_ofBytes, ofBytes_plainL, ofBools_plainL, ofBytes_length, ofBools_length, packB_length, unB_length, boolsEq_self]; omega)
          | omega)
      replace key := key (by
        (try simp only [kept_eq, boolsL_ofBools, bytesL_ofBytes, hK, hN, hM, mK, mb, pl, f1, f2, f3])
        first
          | done
          | rfl
          | (simp [nbeq, nble, iltB_eq, ileB_eq, ieqB_eq, bytesEq_eq, u8L_ofBytes, isBoolL_ofBools, boolsL_ofBools, bytesL_ofBytes, bytesOf_ofBytes, ofBytes_plainL, ofBools_plainL, ofBytes_length, ofBools_length, packB_length, unB_length, boolsEq_self]; done)
          | (simp [nbeq, nble, iltB_eq, ileB_eq, ieqB_eq, bytesEq_eq, u8L_ofBytes, isBoolL_ofBools, boolsL_ofBools, bytesL_ofBytes, bytesOf_ofBytes, ofBytes_plainL, ofBools_plainL, ofBytes_length, ofBools_length, packB_length, unB_length, boolsEq_self]; omega)
          | omega)
      replace key := key (by
        (try simp only [kept_eq, boolsL_ofBools, bytesL_ofBytes, hK, hN, hM, mK, mb, pl, f1, f2, f3])
        first
          | done
          | rfl
          | (simp [nbeq, nble, iltB_eq, ileB_eq, ieqB_eq, bytesEq_eq, u8L_ofBytes, isBoolL_ofBools, boolsL_ofBools, bytesL_ofBytes, bytesOf_ofBytes, ofBytes_plainL, ofBools_plainL, ofBytes_length, ofBools_length, packB_length, unB_length, boolsEq_self]; done)
          | (simp [nbeq, nble, iltB_eq, ileB_eq, ieqB_eq, bytesEq_eq, u8L_ofBytes, isBoolL_ofBools, boolsL_ofBools, bytesL_ofBytes, bytesOf_ofBytes, ofBytes_plainL, ofBools_plainL, ofBytes_length, ofBools_length, packB_length, unB_length, boolsEq_self]; omega)
          | omega)
      replace key := key (by
        (try simp only [kept_eq, boolsL_ofBools, bytesL_ofBytes, hK, hN, hM, mK, mb, pl, f1, f2, f3])
        first
          | done
          | rfl
          | (simp [nbeq, nble, iltB_eq, ileB_eq, ieqB_eq, bytesEq_eq, u8L_ofBytes, isBoolL_ofBools, boolsL_ofBools, bytesL_ofBytes, bytesOf_ofBytes, ofBytes_plainL, ofBools_plainL, ofBytes_length, ofBools_length, packB_length, unB_length, boolsEq_self]; done)
          | (simp [nbeq, nble, iltB_eq, ileB_eq, ieqB_eq, bytesEq_eq, u8L_ofBytes, isBoolL_ofBools, boolsL_ofBools, bytesL_ofBytes, bytesOf_ofBytes, ofBytes_plainL, ofBools_plainL, ofBytes_length, ofBools_length, packB_length, unB_length, boolsEq_self]; omega)
          | omega)
      replace key := key (by
        (try simp only [kept_eq, boolsL_ofBools, bytesL_ofBytes, hK, hN, hM, mK, mb, pl, f1, f2, f3])
        first
          | done
          | rfl
          | (simp [nbeq, nble, iltB_eq, ileB_eq, ieqB_eq, bytesEq_eq, u8L_ofBytes, isBoolL_ofBools, boolsL_ofBools, bytesL_ofBytes, bytesOf_ofBytes, ofBytes_plainL, ofBools_plainL, ofBytes_length, ofBools_length, packB_length, unB_length, boolsEq_self]; done)
          | (simp [nbeq, nble, iltB_eq, ileB_eq, ieqB_eq, bytesEq_eq, u8L_ofBytes, isBoolL_ofBools, boolsL_ofBools, bytesL_ofBytes, bytesOf_ofBytes, ofBytes_plainL, ofBools_plainL, ofBytes_length, ofBools_length, packB_length, unB_length, boolsEq_self]; omega)
          | omega)
      replace key := key (by
        (try simp only [kept_eq, boolsL_ofBools, bytesL_ofBytes, hK, hN, hM, mK, mb, pl, f1, f2, f3])
        first
          | done
          | rfl
          | (simp [nbeq, nble, iltB_eq, ileB_eq, ieqB_eq, bytesEq_eq, u8L_ofBytes, isBoolL_ofBools, boolsL_ofBools, bytesL_ofBytes, bytesOf_ofBytes, ofBytes_plainL, ofBools_plainL, ofBytes_length, ofBools_length, packB_length, unB_length, boolsEq_self]; done)
          | (simp [nbeq, nble, iltB_eq, ileB_eq, ieqB_eq, bytesEq_eq, u8L_ofBytes, isBoolL_ofBools, boolsL_ofBools, bytesL_ofBytes, bytesOf_ofBytes, ofBytes_plainL, ofBools_plainL, ofBytes_length, ofBools_length, packB_length, unB_length, boolsEq_self]; omega)
          | omega)
      replace key := key (by
        (try simp only [kept_eq, boolsL_ofBools, bytesL_ofBytes, hK, hN, hM, mK, mb, pl, f1, f2, f3])
        first
          | done
          | rfl
          | (simp [nbeq, nble, iltB_eq, ileB_eq, ieqB_eq, bytesEq_eq, u8L_ofBytes, isBoolL_ofBools, boolsL_ofBools, bytesL_ofBytes, bytesOf_ofBytes, ofBytes_plainL, ofBools_plainL, ofBytes_length, ofBools_length, packB_length, unB_length, boolsEq_self]; done)
          | (simp [nbeq, nble, iltB_eq, ileB_eq, ieqB_eq, bytesEq_eq, u8L_ofBytes, isBoolL_ofBools, boolsL_ofBools, bytesL_ofBytes, bytesOf_ofBytes, ofBytes_plainL, ofBools_plainL, ofBytes_length, ofBools_length, packB_length, unB_length, boolsEq_self]; omega)
          | omega)
      replace key := key (by
        (try simp only [kept_eq, boolsL_ofBools, bytesL_ofBytes, hK, hN, hM, mK, mb, pl, f1, f2, f3])
        first
          | done
          | rfl
          | (simp [nbeq, nble, iltB_eq, ileB_eq, ieqB_eq, bytesEq_eq, u8L_ofBytes, isBoolL_ofBools, boolsL_ofBools, bytesL_ofBytes, bytesOf_ofBytes, ofBytes_plainL, ofBools_plainL, ofBytes_length, ofBools_length, packB_length, unB_length, boolsEq_self]; done)
          | (simp [nbeq, nble, iltB_eq, ileB_eq, ieqB_eq, bytesEq_eq, u8L_ofBytes, isBoolL_ofBools, boolsL_ofBools, bytesL_ofBytes, bytesOf_ofBytes, ofBytes_plainL, ofBools_plainL, ofBytes_length, ofBools_length, packB_length, unB_length, boolsEq_self]; omega)
          | omega)
      replace key := key (by
        (try simp only [kept_eq, boolsL_ofBools, bytesL_ofBytes, hK, hN, hM, mK, mb, pl, f1, f2, f3])
        first
          | done
          | rfl
          | (simp [nbeq, nble, iltB_eq, ileB_eq, ieqB_eq, bytesEq_eq, u8L_ofBytes, isBoolL_ofBools, boolsL_ofBools, bytesL_ofBytes, bytesOf_ofBytes, ofBytes_plainL, ofBools_plainL, ofBytes_length, ofBools_length, packB_length, unB_length, boolsEq_self]; done)
          | (simp [nbeq, nble, iltB_eq, ileB_eq, ieqB_eq, bytesEq_eq, u8L_ofBytes, isBoolL_ofBools, boolsL_ofBools, bytesL_ofBytes, bytesOf_ofBytes, ofBytes_plainL, ofBools_plainL, ofBytes_length, ofBools_length, packB_length, unB_length, boolsEq_self]; omega)
          | omega)
      replace key := key (by
        (try simp only [kept_eq, boolsL_ofBools, bytesL_ofBytes, hK, hN, hM, mK, mb, pl, f1, f2, f3])
        first
          | done
          | rfl
          | (simp [nbeq, nble, iltB_eq, ileB_eq, ieqB_eq, bytesEq_eq, u8L_ofBytes, isBoolL_ofBools, boolsL_ofBools, bytesL_ofBytes, bytesOf_ofBytes, ofBytes_plainL, ofBools_plainL, ofBytes_length, ofBools_length, packB_length, unB_length, boolsEq_self]; done)
          | (simp [nbeq, nble, iltB_eq, ileB_eq, ieqB_eq, bytesEq_eq, u8L_ofBytes, isBoolL_ofBools, boolsL_ofBools, bytesL_ofBytes, bytesOf_ofBytes, ofBytes_plainL, ofBools_plainL, ofBytes_length, ofBools_length, packB_length, unB_length, boolsEq_self]; omega)
          | omega)
      replace key := key (by
        (try simp only [kept_eq, boolsL_ofBools, bytesL_ofBytes, hK, hN, hM, mK, mb, pl, f1, f2, f3])
        first
          | done
          | rfl
          | (simp [nbeq, nble, iltB_eq, ileB_eq, ieqB_eq, bytesEq_eq, u8L_ofBytes, isBoolL_ofBools, boolsL_ofBools, bytesL_ofBytes, bytesOf_ofBytes, ofBytes_plainL, ofBools_plainL, ofBytes_length, ofBools_length, packB_length, unB_length, boolsEq_self]; done)
          | (simp [nbeq, nble, iltB_eq, ileB_eq, ieqB_eq, bytesEq_eq, u8L_ofBytes, isBoolL_ofBools, boolsL_ofBools, bytesL_ofBytes, bytesOf_ofBytes, ofBytes_plainL, ofBools_plainL, ofBytes_length, ofBools_length, packB_length, unB_length, boolsEq_self]; omega)
          | omega)
      replace key := key (by
        (try simp only [kept_eq, boolsL_ofBools, bytesL_ofBytes, hK, hN, hM, mK, mb, pl, f1, f2, f3])
        first
          | done
          | rfl
          | (simp [nbeq, nble, iltB_eq, ileB_eq, ieqB_eq, bytesEq_eq, u8L_ofBytes, isBoolL_ofBools, boolsL_ofBools, bytesL_ofBytes, bytesOf_ofBytes, ofBytes_plainL, ofBools_plainL, ofBytes_length, ofBools_length, packB_length, unB_length, boolsEq_self]; done)
          | (simp [nbeq, nble, iltB_eq, ileB_eq, ieqB_eq, bytesEq_eq, u8L_ofBytes, isBoolL_ofBools, boolsL_ofBools, bytesL_ofBytes, bytesOf_ofBytes, ofBytes_plainL, ofBools_plainL, ofBytes_length, ofBools_length, packB_length, unB_length, boolsEq_self]; omega)
          | omega)
      replace key := key (by
        (try simp only [kept_eq, boolsL_ofBools, bytesL_ofBytes, hK, hN, hM, mK, mb, pl, f1, f2, f3])
        first
          | done
          | rfl
          | (simp [nbeq, nble, iltB_eq, ileB_eq, ieqB_eq, bytesEq_eq, u8L_ofBytes, isBoolL_ofBools, boolsL_ofBools, bytesL_ofBytes, bytesOf_ofBytes, ofBytes_plainL, ofBools_plainL, ofBytes_length, ofBools_length, packB_length, unB_length, boolsEq_self]; done)
          | (simp [nbeq, nble, iltB_eq, ileB_eq, ieqB_eq, bytesEq_eq, u8L_ofBytes, isBoolL_ofBools, boolsL_ofBools, bytesL_ofBytes, bytesOf_ofBytes, ofBytes_plainL, ofBools_plainL, ofBytes_length, ofBools_length, packB_length, unB_length, boolsEq_self]; omega)
          | omega)
      replace key := key (by
        (try simp only [kept_eq, boolsL_ofBools, bytesL_ofBytes, hK, hN, hM, mK, mb, pl, f1, f2, f3])
        first
          | done
          | rfl
          | (simp [nbeq, nble, iltB_eq, ileB_eq, ieqB_eq, bytesEq_eq, u8L_ofBytes, isBoolL_ofBools, boolsL_ofBools, bytesL_ofBytes, bytesOf_ofBytes, ofBytes_plainL, ofBools_plainL, ofBytes_length, ofBools_length, packB_length, unB_length, boolsEq_self]; done)
          | (simp [nbeq, nble, iltB_eq, ileB_eq, ieqB_eq, bytesEq_eq, u8L_ofBytes, isBoolL_ofBools, boolsL_ofBools, bytesL_ofBytes, bytesOf_ofBytes, ofBytes_plainL, ofBools_plainL, ofBytes_length, ofBools_length, packB_length, unB_length, boolsEq_self]; omega)
          | omega)
      replace key := key (by
        (try simp only [kept_eq, boolsL_ofBools, bytesL_ofBytes, hK, hN, hM, mK, mb, pl, f1, f2, f3])
        first
          | done
          | rfl
          | (simp [nbeq, nble, iltB_eq, ileB_eq, ieqB_eq, bytesEq_eq, u8L_ofBytes, isBoolL_ofBools, boolsL_ofBools, bytesL_ofBytes, bytesOf_ofBytes, ofBytes_plainL, ofBools_plainL, ofBytes_length, ofBools_length, packB_length, unB_length, boolsEq_self]; done)
          | (simp [nbeq, nble, iltB_eq, ileB_eq, ieqB_eq, bytesEq_eq, u8L_ofBytes, isBoolL_ofBools, boolsL_ofBools, bytesL_ofBytes, bytesOf_ofBytes, ofBytes_plainL, ofBools_plainL, ofBytes_length, ofBools_length, packB_length, unB_length, boolsEq_self]; omega)
          | omega)
      replace key := key (by
        (try simp only [kept_eq, boolsL_ofBools, bytesL_ofBytes, hK, hN, hM, mK, mb, pl, f1, f2, f3])
        first
          | done
          | rfl
          | (simp [nbeq, nble, iltB_eq, ileB_eq, ieqB_eq, bytesEq_eq, u8L_ofBytes, isBoolL_ofBools, boolsL_ofBools, bytesL_ofBytes, bytesOf_ofBytes, ofBytes_plainL, ofBools_plainL, ofBytes_length, ofBools_length, packB_length, unB_length, boolsEq_self]; done)
          | (simp [nbeq, nble, iltB_eq, ileB_eq, ieqB_eq, bytesEq_eq, u8L_ofBytes, isBoolL_ofBools, boolsL_ofBools, bytesL_ofBytes, bytesOf_ofBytes, ofBytes_plainL, ofBools_plainL, ofBytes_length, ofBools_length, packB_length, unB_length, boolsEq_self]; omega)
          | omega)
      replace key := key (by
        (try simp only [kept_eq, boolsL_ofBools, bytesL_ofBytes, hK, hN, hM, mK, mb, pl, f1, f2, f3])
        first
          | done
          | rfl
          | (simp [nbeq, nble, iltB_eq, ileB_eq, ieqB_eq, bytesEq_eq, u8L_ofBytes, isBoolL_ofBools, boolsL_ofBools, bytesL_ofBytes, bytesOf_ofBytes, ofBytes_plainL, ofBools_plainL, ofBytes_length, ofBools_length, packB_length, unB_length, boolsEq_self]; done)
          | (simp [nbeq, nble, iltB_eq, ileB_eq, ieqB_eq, bytesEq_eq, u8L_ofBytes, isBoolL_ofBools, boolsL_ofBools, bytesL_ofBytes, bytesOf_ofBytes, ofBytes_plainL, ofBools_plainL, ofBytes_length, ofBools_length, packB_length, unB_length, boolsEq_self]; omega)
          | omega)
      replace key := key (by
        (try simp only [kept_eq, boolsL_ofBools, bytesL_ofBytes, hK, hN, hM, mK, mb, pl, f1, f2, f3])
        first
          | done
          | rfl
          | (simp [nbeq, nble, iltB_eq, ileB_eq, ieqB_eq, bytesEq_eq, u8L_ofBytes, isBoolL_ofBools, boolsL_ofBools, bytesL_ofBytes, bytesOf_ofBytes, ofBytes_plainL, ofBools_plainL, ofBytes_length, ofBools_length, packB_length, unB_length, boolsEq_self]; done)
          | (simp [nbeq, nble, iltB_eq, ileB_eq, ieqB_eq, bytesEq_eq, u8L_ofBytes, isBoolL_ofBools, boolsL_ofBools, bytesL_ofBytes, bytesOf_ofBytes, ofBytes_plainL, ofBools_plainL, ofBytes_length, ofBools_length, packB_length, unB_length, boolsEq_self]; omega)
          | omega)
      replace key := key (by
        (try simp only [kept_eq, boolsL_ofBools, bytesL_ofBytes, hK, hN, hM, mK, mb, pl, f1, f2, f3])
        first
          | done
          | rfl
          | (simp [nbeq, nble, iltB_eq, ileB_eq, ieqB_eq, bytesEq_eq, u8L_ofBytes, isBoolL_ofBools, boolsL_ofBools, bytesL_ofBytes, bytesOf_ofBytes, ofBytes_plainL, ofBools_plainL, ofBytes_length, ofBools_length, packB_length, unB_length, boolsEq_self]; done)
          | (simp [nbeq, nble, iltB_eq, ileB_eq, ieqB_eq, bytesEq_eq, u8L_ofBytes, isBoolL_ofBools, boolsL_ofBools, bytesL_ofBytes, bytesOf_ofBytes, ofBytes_plainL, ofBools_plainL, ofBytes_length, ofBools_length, packB_length, unB_length, boolsEq_self]; omega)
          | omega)
      replace key := key (by
        (try simp only [kept_eq, boolsL_ofBools, bytesL_ofBytes, hK, hN, hM, mK, mb, pl, f1, f2, f3])
        first
          | done
          | rfl
          | (simp [nbeq, nble, iltB_eq, ileB_eq, ieqB_eq, bytesEq_eq, u8L_ofBytes, isBoolL_ofBools, boolsL_ofBools, bytesL_ofBytes, bytesOf_ofBytes, ofBytes_plainL, ofBools_plainL, ofBytes_length, ofBools_length, packB_length, unB_length, boolsEq_self]; done)
          | (simp [nbeq, nble, iltB_eq, ileB_eq, ieqB_eq, bytesEq_eq, u8L_ofBytes, isBoolL_ofBools, boolsL_ofBools, bytesL_ofBytes, bytesOf_ofBytes, ofBytes_plainL, ofBools_plainL, ofBytes_length, ofBools_length, packB_length, unB_length, boolsEq_self]; omega)
          | omega)
      obtain ⟨h', h, _⟩ := key
      exact ⟨h', h⟩
    have pn : wrapA IntKind.i64 ((wrapA IntKind.i64 ((Int.ofNat n).add (Int.ofNat 7))).tdiv (Int.ofNat 8)) = (((n + 7) / 8 : Nat) : Int) := pack_len n (by omega)
    by_cases h3 : b.length = (n + 7) / 8
    case neg =>
      have key := wp_b3 a0 l.length (ofBools l) a1 b.length (ofBytes b) n
      replace key := key (by
        (try simp only [kept_eq, boolsL_ofBools, bytesL_ofBytes, hK, hN, hM, mK, mb, pl, f1, f2, f3, pn])
        first
          | done
          | rfl
          | (simp [nbeq, nble, iltB_eq, ileB_eq, ieqB_eq, bytesEq_eq, u8L_ofBytes, isBoolL_ofBools, boolsL_ofBools, bytesL_ofBytes, bytesOf_ofBytes, ofBytes_plainL, ofBools_plainL, ofBytes_length, ofBools_length, packB_length, unB_length, boolsEq_self]; done)
          | (simp [nbeq, nble, iltB_eq, ileB_eq, ieqB_eq, bytesEq_eq, u8L_ofBytes, isBoolL_ofBools, boolsL_ofBools, bytesL_ofBytes, bytesOf_ofBytes, ofBytes_plainL, ofBools_plainL, ofBytes_length, ofBools_length, packB_length, unB_length, boolsEq_self]; omega)
          | omega)
      replace key := key (by
        (try simp only [kept_eq, boolsL_ofBools, bytesL_ofBytes, hK, hN, hM, mK, mb, pl, f1, f2, f3, pn])
        first
          | done
          | rfl
          | (simp [nbeq, nble, iltB_eq, ileB_eq, ieqB_eq, bytesEq_eq, u8L_ofBytes, isBoolL_ofBools, boolsL_ofBools, bytesL_ofBytes, bytesOf_ofBytes, ofBytes_plainL, ofBools_plainL, ofBytes_length, ofBools_length, packB_length, unB_length, boolsEq_self]; done)
          | (simp [nbeq, nble, iltB_eq, ileB_eq, ieqB_eq, bytesEq_eq, u8L_ofBytes, isBoolL_ofBools, boolsL_ofBools, bytesL_ofBytes, bytesOf_ofBytes, ofBytes_plainL, ofBools_plainL, ofBytes_length, ofBools_length, packB_length, unB_length, boolsEq_self]; omega)
          | omega)
      replace key := key (by
        (try simp only [kept_eq, boolsL_ofBools, bytesL_ofBytes, hK, hN, hM, mK, mb, pl, f1, f2, f3, pn])
        first
          | done
          | rfl
          | (simp [nbeq, nble, iltB_eq, ileB_eq, ieqB_eq, bytesEq_eq, u8L_ofBytes, isBoolL_ofBools, boolsL_ofBools, bytesL_ofBytes, bytesOf_ofBytes, ofBytes_plainL, ofBools_plainL, ofBytes_length, ofBools_length, packB_length, unB_length, boolsEq_self]; done)
          | (simp [nbeq, nble, iltB_eq, ileB_eq, ieqB_eq, bytesEq_eq, u8L_ofBytes, isBoolL_ofBools, boolsL_ofBools, bytesL_ofBytes, bytesOf_ofBytes, ofBytes_plainL, ofBools_plainL, ofBytes_length, ofBools_length, packB_length, unB_length, boolsEq_self]; omega)
          | omega)
      replace key := key (by
        (try simp only [kept_eq, boolsL_ofBools, bytesL_ofBytes, hK, hN, hM, mK, mb, pl, f1, f2, f3, pn])
        first
          | done
          | rfl
          | (simp [nbeq, nble, iltB_eq, ileB_eq, ieqB_eq, bytesEq_eq, u8L_ofBytes, isBoolL_ofBools, boolsL_ofBools, bytesL_ofBytes, bytesOf_ofBytes, ofBytes_plainL, ofBools_plainL, ofBytes_length, ofBools_length, packB_length, unB_length, boolsEq_self]; done)
          | (simp [nbeq, nble, iltB_eq, ileB_eq, ieqB_eq, bytesEq_eq, u8L_ofBytes, isBoolL_ofBools, boolsL_ofBools, bytesL_ofBytes, bytesOf_ofBytes, ofBytes_plainL, ofBools_plainL, ofBytes_length, ofBools_length, packB_length, unB_length, boolsEq_self]; omega)
          | omega)
      replace key := key (by
        (try simp only [kept_eq, boolsL_ofBools, bytesL_ofBytes, hK, hN, hM, mK, mb, pl, f1, f2, f3, pn])
        first
          | done
          | rfl
          | (simp [nbeq, nble, iltB_eq, ileB_eq, ieqB_eq, bytesEq_eq, u8L_ofBytes, isBoolL_ofBools, boolsL_ofBools, bytesL_ofBytes, bytesOf_ofBytes, ofBytes_plainL, ofBools_plainL, ofBytes_length, ofBools_length, packB_length, unB_length, boolsEq_self]; done)
          | (simp [nbeq, nble, iltB_eq, ileB_eq, ieqB_eq, bytesEq_eq, u8L_ofBytes, isBoolL_ofBools, boolsL_ofBools, bytesL_ofBytes, bytesOf_ofBytes, ofBytes_plainL, ofBools_plainL, ofBytes_length, ofBools_length, packB_length, unB_length, boolsEq_self]; omega)
          | omega)
      replace key := key (by
        (try simp only [kept_eq, boolsL_ofBools, bytesL_ofBytes, hK, hN, hM, mK, mb, pl, f1, f2, f3, pn])
        first
          | done
          | rfl
          | (simp [nbeq, nble, iltB_eq, ileB_eq, ieqB_eq, bytesEq_eq, u8L_ofBytes, isBoolL_ofBools, boolsL_ofBools, bytesL_ofBytes, bytesOf_ofBytes, ofBytes_plainL, ofBools_plainL, ofBytes_length, ofBools_length, packB_length, unB_length, boolsEq_self]; done)
          | (simp [nbeq, nble, iltB_eq, ileB_eq, ieqB_eq, bytesEq_eq, u8L_ofBytes, isBoolL_ofBools, boolsL_ofBools, bytesL_ofBytes, bytesOf_ofBytes, ofBytes_plainL, ofBools_plainL, ofBytes_length, ofBools_length, packB_length, unB_length, boolsEq_self]; omega)
          | omega)
      replace key := key (by
        (try simp only [kept_eq, boolsL_ofBools, bytesL_ofBytes, hK, hN, hM, mK, mb, pl, f1, f2, f3, pn])
        first
          | done
          | rfl
          | (simp [nbeq, nble, iltB_eq, ileB_eq, ieqB_eq, bytesEq_eq, u8L_ofBytes, isBoolL_ofBools, boolsL_ofBools, bytesL_ofBytes, bytesOf_ofBytes, ofBytes_plainL, ofBools_plainL, ofBytes_length, ofBools_length, packB_length, unB_length, boolsEq_self]; done)
          | (simp [nbeq, nble, iltB_eq, ileB_eq, ieqB_eq, bytesEq_eq, u8L_ofBytes, isBoolL_ofBools, boolsL_ofBools, bytesL_ofBytes, bytesOf_ofBytes, ofBytes_plainL, ofBools_plainL, ofBytes_length, ofBools_length, packB_length, unB_length, boolsEq_self]; omega)
          | omega)
      replace key := key (by
        (try simp only [kept_eq, boolsL_ofBools, bytesL_ofBytes, hK, hN, hM, mK, mb, pl, f1, f2, f3, pn])
        first
          | done
          | rfl
          | (simp [nbeq, nble, iltB_eq, ileB_eq, ieqB_eq, bytesEq_eq, u8L_ofBytes, isBoolL_ofBools, boolsL_ofBools, bytesL_ofBytes, bytesOf_ofBytes, ofBytes_plainL, ofBools_plainL, ofBytes_length, ofBools_length, packB_length, unB_length, boolsEq_self]; done)
          | (simp [nbeq, nble, iltB_eq, ileB_eq, ieqB_eq, bytesEq_eq, u8L_ofBytes, isBoolL_ofBools, boolsL_ofBools, bytesL_ofBytes, bytesOf_ofBytes, ofBytes_plainL, ofBools_plainL, ofBytes_length, ofBools_length, packB_length, unB_length, boolsEq_self]; omega)
          | omega)
      replace key := key (by
        (try simp only [kept_eq, boolsL_ofBools, bytesL_ofBytes, hK, hN, hM, mK, mb, pl, f1, f2, f3, pn])
        first
          | done
          | rfl
          | (simp [nbeq, nble, iltB_eq, ileB_eq, ieqB_eq, bytesEq_eq, u8L_ofBytes, isBoolL_ofBools, boolsL_ofBools, bytesL_ofBytes, bytesOf_ofBytes, ofBytes_plainL, ofBools_plainL, ofBytes_length, ofBools_length, packB_length, unB_length, boolsEq_self]; done)
          | (simp [nbeq, nble, iltB_eq, ileB_eq, ieqB_eq, bytesEq_eq, u8L_ofBytes, isBoolL_ofBools, boolsL_ofBools, bytesL_ofBytes, bytesOf_ofBytes, ofBytes_plainL, ofBools_plainL, ofBytes_length, ofBools_length, packB_length, unB_length, boolsEq_self]; omega)
          | omega)
      replace key := key (by
        (try simp only [kept_eq, boolsL_ofBools, bytesL_ofBytes, hK, hN, hM, mK, mb, pl, f1, f2, f3, pn])
        first
          | done
          | rfl
          | (simp [nbeq, nble, iltB_eq, ileB_eq, ieqB_eq, bytesEq_eq, u8L_ofBytes, isBoolL_ofBools, boolsL_ofBools, bytesL_ofBytes, bytesOf_ofBytes, ofBytes_plainL, ofBools_plainL, ofBytes_length, ofBools_length, packB_length, unB_length, boolsEq_self]; done)
          | (simp [nbeq, nble, iltB_eq, ileB_eq, ieqB_eq, bytesEq_eq, u8L_ofBytes, isBoolL_ofBools, boolsL_ofBools, bytesL_ofBytes, bytesOf_ofBytes, ofBytes_plainL, ofBools_plainL, ofBytes_length, ofBools_length, packB_length, unB_length, boolsEq_self]; omega)
          | omega)
      replace key := key (by
        (try simp only [kept_eq, boolsL_ofBools, bytesL_ofBytes, hK, hN, hM, mK, mb, pl, f1, f2, f3, pn])
        first
          | done
          | rfl
          | (simp [nbeq, nble, iltB_eq, ileB_eq, ieqB_eq, bytesEq_eq, u8L_ofBytes, isBoolL_ofBools, boolsL_ofBools, bytesL_ofBytes, bytesOf_ofBytes, ofBytes_plainL, ofBools_plainL, ofBytes_length, ofBools_length, packB_length, unB_length, boolsEq_self]; done)
          | (simp [nbeq, nble, iltB_eq, ileB_eq, ieqB_eq, bytesEq_eq, u8L_ofBytes, isBoolL_ofBools, boolsL_ofBools, bytesL_ofBytes, bytesOf_ofBytes, ofBytes_plainL, ofBools_plainL, ofBytes_length, ofBools_length, packB_length, unB_length, boolsEq_self]; omega)
          | omega)
      replace key := key (by
        (try simp only [kept_eq, boolsL_ofBools, bytesL_ofBytes, hK, hN, hM, mK, mb, pl, f1, f2, f3, pn])
        first
          | done
          | rfl
          | (simp [nbeq, nble, iltB_eq, ileB_eq, ieqB_eq, bytesEq_eq, u8L_ofBytes, isBoolL_ofBools, boolsL_ofBools, bytesL_ofBytes, bytesOf_ofBytes, ofBytes_plainL, ofBools_plainL, ofBytes_length, ofBools_length, packB_length, unB_length, boolsEq_self]; done)
          | (simp [nbeq, nble, iltB_eq, ileB_eq, ieqB_eq, bytesEq_eq, u8L_ofBytes, isBoolL_ofBools, boolsL_ofBools, bytesL_ofBytes, bytesOf_ofBytes, ofBytes_plainL, ofBools_plainL, ofBytes_length, ofBools_length, packB_length, unB_length, boolsEq_self]; omega)
          | omega)
      replace key := key (by
        (try simp only [kept_eq, boolsL_ofBools, bytesL_ofBytes, hK, hN, hM, mK, mb, pl, f1, f2, f3, pn])
        first
          | done
          | rfl
          | (simp [nbeq, nble, iltB_eq, ileB_eq, ieqB_eq, bytesEq_eq, u8L_ofBytes, isBoolL_ofBools, boolsL_ofBools, bytesL_ofBytes, bytesOf_ofBytes, ofBytes_plainL, ofBools_plainL, ofBytes_length, ofBools_length, packB_length, unB_length, boolsEq_self]; done)
          | (simp [nbeq, nble, iltB_eq, ileB_eq, ieqB_eq, bytesEq_eq, u8L_ofBytes, isBoolL_ofBools, boolsL_ofBools, bytesL_ofBytes, bytesOf_ofBytes, ofBytes_plainL, ofBools_plainL, ofBytes_length, ofBools_length, packB_length, unB_length, boolsEq_self]; omega)
          | omega)
      replace key := key (by
        (try simp only [kept_eq, boolsL_ofBools, bytesL_ofBytes, hK, hN, hM, mK, mb, pl, f1, f2, f3, pn])
        first
          | done
          | rfl
          | (simp [nbeq, nble, iltB_eq, ileB_eq, ieqB_eq, bytesEq_eq, u8L_ofBytes, isBoolL_ofBools, boolsL_ofBools, bytesL_ofBytes, bytesOf_ofBytes, ofBytes_plainL, ofBools_plainL, ofBytes_length, ofBools_length, packB_length, unB_length, boolsEq_self]; done)
          | (simp [nbeq, nble, iltB_eq, ileB_eq, ieqB_eq, bytesEq_eq, u8L_ofBytes, isBoolL_ofBools, boolsL_ofBools, bytesL_ofBytes, bytesOf_ofBytes, ofBytes_plainL, ofBools_plainL, ofBytes_length, ofBools_length, packB_length, unB_length, boolsEq_self]; omega)
          | omega)
      replace key := key (by
        (try simp only [kept_eq, boolsL_ofBools, bytesL_ofBytes, hK, hN, hM, mK, mb, pl, f1, f2, f3, pn])
        first
          | done
          | rfl
          | (simp [nbeq, nble, iltB_eq, ileB_eq, ieqB_eq, bytesEq_eq, u8L_ofBytes, isBoolL_ofBools, boolsL_ofBools, bytesL_ofBytes, bytesOf_ofBytes, ofBytes_plainL, ofBools_plainL, ofBytes_length, ofBools_length, packB_length, unB_length, boolsEq_self]; done)
          | (simp [nbeq, nble, iltB_eq, ileB_eq, ieqB_eq, bytesEq_eq, u8L_ofBytes, isBoolL_ofBools, boolsL_ofBools, bytesL_ofBytes, bytesOf_ofBytes, ofBytes_plainL, ofBools_plainL, ofBytes_length, ofBools_length, packB_length, unB_length, boolsEq_self]; omega)
          | omega)
      replace key := key (by
        (try simp only [kept_eq, boolsL_ofBools, bytesL_ofBytes, hK, hN, hM, mK, mb, pl, f1, f2, f3, pn])
        first
          | done
          | rfl
          | (simp [nbeq, nble, iltB_eq, ileB_eq, ieqB_eq, bytesEq_eq, u8L_ofBytes, isBoolL_ofBools, boolsL_ofBools, bytesL_ofBytes, bytesOf_ofBytes, ofBytes_plainL, ofBools_plainL, ofBytes_length, ofBools_length, packB_length, unB_length, boolsEq_self]; done)
          | (simp [nbeq, nble, iltB_eq, ileB_eq, ieqB_eq, bytesEq_eq, u8L_ofBytes, isBoolL_ofBools, boolsL_ofBools, bytesL_ofBytes, bytesOf_ofBytes, ofBytes_plainL, ofBools_plainL, ofBytes_length, ofBools_length, packB_length, unB_length, boolsEq_self]; omega)
          | omega)
      replace key := key (by
        (try simp only [kept_eq, boolsL_ofBools, bytesL_ofBytes, hK, hN, hM, mK, mb, pl, f1, f2, f3, pn])
        first
          | done
          | rfl
          | (simp [nbeq, nble, iltB_eq, ileB_eq, ieqB_eq, bytesEq_eq, u8L_ofBytes, isBoolL_ofBools, boolsL_ofBools, bytesL_ofBytes, bytesOf_ofBytes, ofBytes_plainL, ofBools_plainL, ofBytes_length, ofBools_length, packB_length, unB_length, boolsEq_self]; done)
          | (simp [nbeq, nble, iltB_eq, ileB_eq, ieqB_eq, bytesEq_eq, u8L_ofBytes, isBoolL_ofBools, boolsL_ofBools, bytesL_ofBytes, bytesOf_ofBytes, ofBytes_plainL, ofBools_plainL, ofBytes_length, ofBools_length, packB_length, unB_length, boolsEq_self]; omega)
          | omega)
      replace key := key (by
        (try simp only [kept_eq, boolsL_ofBools, bytesL_ofBytes, hK, hN, hM, mK, mb, pl, f1, f2, f3, pn])
        first
          | done
          | rfl
          | (simp [nbeq, nble, iltB_eq, ileB_eq, ieqB_eq, bytesEq_eq, u8L_ofBytes, isBoolL_ofBools, boolsL_ofBools, bytesL_ofBytes, bytesOf_ofBytes, ofBytes_plainL, ofBools_plainL, ofBytes_length, ofBools_length, packB_length, unB_length, boolsEq_self]; done)
          | (simp [nbeq, nble, iltB_eq, ileB_eq, ieqB_eq, bytesEq_eq, u8L_ofBytes, isBoolL_ofBools, boolsL_ofBools, bytesL_ofBytes, bytesOf_ofBytes, ofBytes_plainL, ofBools_plainL, ofBytes_length, ofBools_length, packB_length, unB_length, boolsEq_self]; omega)
          | omega)
      replace key := key (by
        (try simp only [kept_eq, boolsL_ofBools, bytesL_ofBytes, hK, hN, hM, mK, mb, pl, f1, f2, f3, pn])
        first
          | done
          | rfl
          | (simp [nbeq, nble, iltB_eq, ileB_eq, ieqB_eq, bytesEq_eq, u8L_ofBytes, isBoolL_ofBools, boolsL_ofBools, bytesL_ofBytes, bytesOf_ofBytes, ofBytes_plainL, ofBools_plainL, ofBytes_length, ofBools_length, packB_length, unB_length, boolsEq_self]; done)
          | (simp [nbeq, nble, iltB_eq, ileB_eq, ieqB_eq, bytesEq_eq, u8L_ofBytes, isBoolL_ofBools, boolsL_ofBools, bytesL_ofBytes, bytesOf_ofBytes, ofBytes_plainL, ofBools_plainL, ofBytes_length, ofBools_length, packB_length, unB_length, boolsEq_self]; omega)
          | omega)
      replace key := key (by
        (try simp only [kept_eq, boolsL_ofBools, bytesL_ofBytes, hK, hN, hM, mK, mb, pl, f1, f2, f3, pn])
        first
          | done
          | rfl
          | (simp [nbeq, nble, iltB_eq, ileB_eq, ieqB_eq, bytesEq_eq, u8L_ofBytes, isBoolL_ofBools, boolsL_ofBools, bytesL_ofBytes, bytesOf_ofBytes, ofBytes_plainL, ofBools_plainL, ofBytes_length, ofBools_length, packB_length, unB_length, boolsEq_self]; done)
          | (simp [nbeq, nble, iltB_eq, ileB_eq, ieqB_eq, bytesEq_eq, u8L_ofBytes, isBoolL_ofBools, boolsL_ofBools, bytesL_ofBytes, bytesOf_ofBytes, ofBytes_plainL, ofBools_plainL, ofBytes_length, ofBools_length, packB_length, unB_length, boolsEq_self]; omega)
          | omega)
      replace key := key (by
        (try simp only [kept_eq, boolsL_ofBools, bytesL_ofBytes, hK, hN, hM, mK, mb, pl, f1, f2, f3, pn])
        first
          | done
          | rfl
          | (simp [nbeq, nble, iltB_eq, ileB_eq, ieqB_eq, bytesEq_eq, u8L_ofBytes, isBoolL_ofBools, boolsL_ofBools, bytesL_ofBytes, bytesOf_ofBytes, ofBytes_plainL, ofBools_plainL, ofBytes_length, ofBools_length, packB_length, unB_length, boolsEq_self]; done)
          | (simp [nbeq, nble, iltB_eq, ileB_eq, ieqB_eq, bytesEq_eq, u8L_ofBytes, isBoolL_ofBools, boolsL_ofBools, bytesL_ofBytes, bytesOf_ofBytes, ofBytes_plainL, ofBools_plainL, ofBytes_length, ofBools_length, packB_length, unB_length, boolsEq_self]; omega)
          | omega)
      replace key := key (by
        (try simp only [kept_eq, boolsL_ofBools, bytesL_ofBytes, hK, hN, hM, mK, mb, pl, f1, f2, f3, pn])
        first
          | done
          | rfl
          | (simp [nbeq, nble, iltB_eq, ileB_eq, ieqB_eq, bytesEq_eq, u8L_ofBytes, isBoolL_ofBools, boolsL_ofBools, bytesL_ofBytes, bytesOf_ofBytes, ofBytes_plainL, ofBools_plainL, ofBytes_length, ofBools_length, packB_length, unB_length, boolsEq_self]; done)
          | (simp [nbeq, nble, iltB_eq, ileB_eq, ieqB_eq, bytesEq_eq, u8L_ofBytes, isBoolL_ofBools, boolsL_ofBools, bytesL_ofBytes, bytesOf_ofBytes, ofBytes_plainL, ofBools_plainL, ofBytes_length, ofBools_length, packB_length, unB_length, boolsEq_self]; omega)
          | omega)
      replace key := key (by
        (try simp only [kept_eq, boolsL_ofBools, bytesL_ofBytes, hK, hN, hM, mK, mb, pl, f1, f2, f3, pn])
        first
          | done
          | rfl
          | (simp [nbeq, nble, iltB_eq, ileB_eq, ieqB_eq, bytesEq_eq, u8L_ofBytes, isBoolL_ofBools, boolsL_ofBools, bytesL_ofBytes, bytesOf_ofBytes, ofBytes_plainL, ofBools_plainL, ofBytes_length, ofBools_length, packB_length, unB_length, boolsEq_self]; done)
          | (simp [nbeq, nble, iltB_eq, ileB_eq, ieqB_eq, bytesEq_eq, u8L_ofBytes, isBoolL_ofBools, boolsL_ofBools, bytesL_ofBytes, bytesOf_ofBytes, ofBytes_plainL, ofBools_plainL, ofBytes_length, ofBools_length, packB_length, unB_length, boolsEq_self]; omega)
          | omega)
      replace key := key (by
        (try simp only [kept_eq, boolsL_ofBools, bytesL_ofBytes, hK, hN, hM, mK, mb, pl, f1, f2, f3, pn])
        first
          | done
          | rfl
          | (simp [nbeq, nble, iltB_eq, ileB_eq, ieqB_eq, bytesEq_eq, u8L_ofBytes, isBoolL_ofBools, boolsL_ofBools, bytesL_ofBytes, bytesOf_ofBytes, ofBytes_plainL, ofBools_plainL, ofBytes_length, ofBools_length, packB_length, unB_length, boolsEq_self]; done)
          | (simp [nbeq, nble, iltB_eq, ileB_eq, ieqB_eq, bytesEq_eq, u8L_ofBytes, isBoolL_ofBools, boolsL_ofBools, bytesL_ofBytes, bytesOf_ofBytes, ofBytes_plainL, ofBools_plainL, ofBytes_length, ofBools_length, packB_length, unB_length, boolsEq_self]; omega)
          | omega)
      replace key := key (by
        (try simp only [kept_eq, boolsL_ofBools, bytesL_ofBytes, hK, hN, hM, mK, mb, pl, f1, f2, f3, pn])
        first
          | done
          | rfl
          | (simp [nbeq, nble, iltB_eq, ileB_eq, ieqB_eq, bytesEq_eq, u8L_ofBytes, isBoolL_ofBools, boolsL_ofBools, bytesL_ofBytes, bytesOf_ofBytes, ofBytes_plainL, ofBools_plainL, ofBytes_length, ofBools_length, packB_length, unB_length, boolsEq_self]; done)
          | (simp [nbeq, nble, iltB_eq, ileB_eq, ieqB_eq, bytesEq_eq, u8L_ofBytes, isBoolL_ofBools, boolsL_ofBools, bytesL_ofBytes, bytesOf_ofBytes, ofBytes_plainL, ofBools_plainL, ofBytes_length, ofBools_length, packB_length, unB_length, boolsEq_self]; omega)
          | omega)
      replace key := key (by
        (try simp only [kept_eq, boolsL_ofBools, bytesL_ofBytes, hK, hN, hM, mK, mb, pl, f1, f2, f3, pn])
        first
          | done
          | rfl
          | (simp [nbeq, nble, iltB_eq, ileB_eq, ieqB_eq, bytesEq_eq, u8L_ofBytes, isBoolL_ofBools, boolsL_ofBools, bytesL_ofBytes, bytesOf_ofBytes, ofBytes_plainL, ofBools_plainL, ofBytes_length, ofBools_length, packB_length, unB_length, boolsEq_self]; done)
          | (simp [nbeq, nble, iltB_eq, ileB_eq, ieqB_eq, bytesEq_eq, u8L_ofBytes, isBoolL_ofBools, boolsL_ofBools, bytesL_ofBytes, bytesOf_ofBytes, ofBytes_plainL, ofBools_plainL, ofBytes_length, ofBools_length, packB_length, unB_length, boolsEq_self]; omega)
          | omega)
      replace key := key (by
        (try simp only [kept_eq, boolsL_ofBools, bytesL_ofBytes, hK, hN, hM, mK, mb, pl, f1, f2, f3, pn])
        first
          | done
          | rfl
          | (simp [nbeq, nble, iltB_eq, ileB_eq, ieqB_eq, bytesEq_eq, u8L_ofBytes, isBoolL_ofBools, boolsL_ofBools, bytesL_ofBytes, bytesOf_ofBytes, ofBytes_plainL, ofBools_plainL, ofBytes_length, ofBools_length, packB_length, unB_length, boolsEq_self]; done)
          | (simp [nbeq, nble, iltB_eq, ileB_eq, ieqB_eq, bytesEq_eq, u8L_ofBytes, isBoolL_ofBools, boolsL_ofBools, bytesL_ofBytes, bytesOf_ofBytes, ofBytes_plainL, ofBools_plainL, ofBytes_length, ofBools_length, packB_length, unB_length, boolsEq_self]; omega)
          | omega)
      replace key := key (by
        (try simp only [kept_eq, boolsL_ofBools, bytesL_ofBytes, hK, hN, hM, mK, mb, pl, f1, f2, f3, pn])
        first
          | done
          | rfl
          | (simp [nbeq, nble, iltB_eq, ileB_eq, ieqB_eq, bytesEq_eq, u8L_ofBytes, isBoolL_ofBools, boolsL_ofBools, bytesL_ofBytes, bytesOf_ofBytes, ofBytes_plainL, ofBools_plainL, ofBytes_length, ofBools_length, packB_length, unB_length, boolsEq_self]; done)
          | (simp [nbeq, nble, iltB_eq, ileB_eq, ieqB_eq, bytesEq_eq, u8L_ofBytes, isBoolL_ofBools, boolsL_ofBools, bytesL_ofBytes, bytesOf_ofBytes, ofBytes_plainL, ofBools_plainL, ofBytes_length, ofBools_length, packB_length, unB_length, boolsEq_self]; omega)
          | omega)
      replace key := key (by
        (try simp only [kept_eq, boolsL_ofBools, bytesL_ofBytes, hK, hN, hM, mK, mb, pl, f1, f2, f3, pn])
        first
          | done
          | rfl
          | (simp [nbeq, nble, iltB_eq, ileB_eq, ieqB_eq, bytesEq_eq, u8L_ofBytes, isBoolL_ofBools, boolsL_ofBools, bytesL_ofBytes, bytesOf_ofBytes, ofBytes_plainL, ofBools_plainL, ofBytes_length, ofBools_length, packB_length, unB_length, boolsEq_self]; done)
          | (simp [nbeq, nble, iltB_eq, ileB_eq, ieqB_eq, bytesEq_eq, u8L_ofBytes, isBoolL_ofBools, boolsL_ofBools, bytesL_ofBytes, bytesOf_ofBytes, ofBytes_plainL, ofBools_plainL, ofBytes_length, ofBools_length, packB_length, unB_length, boolsEq_self]; omega)
          | omega)
      replace key := key (by
        (try simp only [kept_eq, boolsL_ofBools, bytesL_ofBytes, hK, hN, hM, mK, mb, pl, f1, f2, f3, pn])
        first
          | done
          | rfl
          | (simp [nbeq, nble, iltB_eq, ileB_eq, ieqB_eq, bytesEq_eq, u8L_ofBytes, isBoolL_ofBools, boolsL_ofBools, bytesL_ofBytes, bytesOf_ofBytes, ofBytes_plainL, ofBools_plainL, ofBytes_length, ofBools_length, packB_length, unB_length, boolsEq_self]; done)
          | (simp [nbeq, nble, iltB_eq, ileB_eq, ieqB_eq, bytesEq_eq, u8L_ofBytes, isBoolL_ofBools, boolsL_ofBools, bytesL_ofBytes, bytesOf_ofBytes, ofBytes_plainL, ofBools_plainL, ofBytes_length, ofBools_length, packB_length, unB_length, boolsEq_self]; omega)
          | omega)
      replace key := key (by
        (try simp only [kept_eq, boolsL_ofBools, bytesL_ofBytes, hK, hN, hM, mK, mb, pl, f1, f2, f3, pn])
        first
          | done
          | rfl
          | (simp [nbeq, nble, iltB_eq, ileB_eq, ieqB_eq, bytesEq_eq, u8L_ofBytes, isBoolL_ofBools, boolsL_ofBools, bytesL_ofBytes, bytesOf_ofBytes, ofBytes_plainL, ofBools_plainL, ofBytes_length, ofBools_length, packB_length, unB_length, boolsEq_self]; done)
          | (simp [nbeq, nble, iltB_eq, ileB_eq, ieqB_eq, bytesEq_eq, u8L_ofBytes, isBoolL_ofBools, boolsL_ofBools, bytesL_ofBytes, bytesOf_ofBytes, ofBytes_plainL, ofBools_plainL, ofBytes_length, ofBools_length, packB_length, unB_length, boolsEq_self]; omega)
          | omega)
      replace key := key (by
        (try simp only [kept_eq, boolsL_ofBools, bytesL_ofBytes, hK, hN, hM, mK, mb, pl, f1, f2, f3, pn])
        first
          | done
          | rfl
          | (simp [nbeq, nble, iltB_eq, ileB_eq, ieqB_eq, bytesEq_eq, u8L_ofBytes, isBoolL_ofBools, boolsL_ofBools, bytesL_ofBytes, bytesOf_ofBytes, ofBytes_plainL, ofBools_plainL, ofBytes_length, ofBools_length, packB_length, unB_length, boolsEq_self]; done)
          | (simp [nbeq, nble, iltB_eq, ileB_eq, ieqB_eq, bytesEq_eq, u8L_ofBytes, isBoolL_ofBools, boolsL_ofBools, bytesL_ofBytes, bytesOf_ofBytes, ofBytes_plainL, ofBools_plainL, ofBytes_length, ofBools_length, packB_length, unB_length, boolsEq_self]; omega)
          | omega)
      obtain ⟨h', h, _⟩ := key
      exact ⟨h', h⟩
    by_cases h4 : n = 0
    case pos =>
      subst h4
      have b0 : b = [] := List.eq_nil_of_length_eq_zero (by omega)
      subst b0
      have key := wp_z a0 l.length (ofBools l) a1 0 (ofBytes []) 0
      replace key := key (by
        (try simp only [kept_eq, boolsL_ofBools, bytesL_ofBytes, hK, hN, hM, mK, pl, f1, f2, f3])
        first
          | done
          | rfl
          | (simp [nbeq, nble, iltB_eq, ileB_eq, ieqB_eq, bytesEq_eq, u8L_ofBytes, isBoolL_ofBools, boolsL_ofBools, bytesL_ofBytes, bytesOf_ofBytes, ofBytes_plainL, ofBools_plainL, ofBytes_length, ofBools_length, packB_length, unB_length, boolsEq_self]; done)
          | (simp [nbeq, nble, iltB_eq, ileB_eq, ieqB_eq, bytesEq_eq, u8L_ofBytes, isBoolL_ofBools, boolsL_ofBools, bytesL_ofBytes, bytesOf_ofBytes, ofBytes_plainL, ofBools_plainL, ofBytes_length, ofBools_length, packB_length, unB_length, boolsEq_self]; omega)
          | omega)
      replace key := key (by
        (try simp only [kept_eq, boolsL_ofBools, bytesL_ofBytes, hK, hN, hM, mK, pl, f1, f2, f3])
        first
          | done
          | rfl
          | (simp [nbeq, nble, iltB_eq, ileB_eq, ieqB_eq, bytesEq_eq, u8L_ofBytes, isBoolL_ofBools, boolsL_ofBools, bytesL_ofBytes, bytesOf_ofBytes, ofBytes_plainL, ofBools_plainL, ofBytes_length, ofBools_length, packB_length, unB_length, boolsEq_self]; done)
          | (simp [nbeq, nble, iltB_eq, ileB_eq, ieqB_eq, bytesEq_eq, u8L_ofBytes, isBoolL_ofBools, boolsL_ofBools, bytesL_ofBytes, bytesOf_ofBytes, ofBytes_plainL, ofBools_plainL, ofBytes_length, ofBools_length, packB_length, unB_length, boolsEq_self]; omega)
          | omega)
      replace key := key (by
        (try simp only [kept_eq, boolsL_ofBools, bytesL_ofBytes, hK, hN, hM, mK, pl, f1, f2, f3])
        first
          | done
          | rfl
          | (simp [nbeq, nble, iltB_eq, ileB_eq, ieqB_eq, bytesEq_eq, u8L_ofBytes, isBoolL_ofBools, boolsL_ofBools, bytesL_ofBytes, bytesOf_ofBytes, ofBytes_plainL, ofBools_plainL, ofBytes_length, ofBools_length, packB_length, unB_length, boolsEq_self]; done)
          | (simp [nbeq, nble, iltB_eq, ileB_eq, ieqB_eq, bytesEq_eq, u8L_ofBytes, isBoolL_ofBools, boolsL_ofBools, bytesL_ofBytes, bytesOf_ofBytes, ofBytes_plainL, ofBools_plainL, ofBytes_length, ofBools_length, packB_length, unB_length, boolsEq_self]; omega)
          | omega)
      replace key := key (by
        (try simp only [kept_eq, boolsL_ofBools, bytesL_ofBytes, hK, hN, hM, mK, pl, f1, f2, f3])
        first
          | done
          | rfl
          | (simp [nbeq, nble, iltB_eq, ileB_eq, ieqB_eq, bytesEq_eq, u8L_ofBytes, isBoolL_ofBools, boolsL_ofBools, bytesL_ofBytes, bytesOf_ofBytes, ofBytes_plainL, ofBools_plainL, ofBytes_length, ofBools_length, packB_length, unB_length, boolsEq_self]; done)
          | (simp [nbeq, nble, iltB_eq, ileB_eq, ieqB_eq, bytesEq_eq, u8L_ofBytes, isBoolL_ofBools, boolsL_ofBools, bytesL_ofBytes, bytesOf_ofBytes, ofBytes_plainL, ofBools_plainL, ofBytes_length, ofBools_length, packB_length, unB_length, boolsEq_self]; omega)
          | omega)
      replace key := key (by
        (try simp only [kept_eq, boolsL_ofBools, bytesL_ofBytes, hK, hN, hM, mK, pl, f1, f2, f3])
        first
          | done
          | rfl
          | (simp [nbeq, nble, iltB_eq, ileB_eq, ieqB_eq, bytesEq_eq, u8L_ofBytes, isBoolL_ofBools, boolsL_ofBools, bytesL_ofBytes, bytesOf_ofBytes, ofBytes_plainL, ofBools_plainL, ofBytes_length, ofBools_length, packB_length, unB_length, boolsEq_self]; done)
          | (simp [nbeq, nble, iltB_eq, ileB_eq, ieqB_eq, bytesEq_eq, u8L_ofBytes, isBoolL_ofBools, boolsL_ofBools, bytesL_ofBytes, bytesOf_ofBytes, ofBytes_plainL, ofBools_plainL, ofBytes_length, ofBools_length, packB_length, unB_length, boolsEq_self]; omega)
          | omega)
      replace key := key (by
        (try simp only [kept_eq, boolsL_ofBools, bytesL_ofBytes, hK, hN, hM, mK, pl, f1, f2, f3])
        first
          | done
          | rfl
          | (simp [nbeq, nble, iltB_eq, ileB_eq, ieqB_eq, bytesEq_eq, u8L_ofBytes, isBoolL_ofBools, boolsL_ofBools, bytesL_ofBytes, bytesOf_ofBytes, ofBytes_plainL, ofBools_plainL, ofBytes_length, ofBools_length, packB_length, unB_length, boolsEq_self]; done)
          | (simp [nbeq, nble, iltB_eq, ileB_eq, ieqB_eq, bytesEq_eq, u8L_ofBytes, isBoolL_ofBools, boolsL_ofBools, bytesL_ofBytes, bytesOf_ofBytes, ofBytes_plainL, ofBools_plainL, ofBytes_length, ofBools_length, packB_length, unB_length, boolsEq_self]; omega)
          | omega)
      replace key := key (by
        (try simp only [kept_eq, boolsL_ofBools, bytesL_ofBytes, hK, hN, hM, mK, pl, f1, f2, f3])
        first
          | done
          | rfl
          | (simp [nbeq, nble, iltB_eq, ileB_eq, ieqB_eq, bytesEq_eq, u8L_ofBytes, isBoolL_ofBools, boolsL_ofBools, bytesL_ofBytes, bytesOf_ofBytes, ofBytes_plainL, ofBools_plainL, ofBytes_length, ofBools_length, packB_length, unB_length, boolsEq_self]; done)
          | (simp [nbeq, nble, iltB_eq, ileB_eq, ieqB_eq, bytesEq_eq, u8L_ofBytes, isBoolL_ofBools, boolsL_ofBools, bytesL_ofBytes, bytesOf_ofBytes, ofBytes_plainL, ofBools_plainL, ofBytes_length, ofBools_length, packB_length, unB_length, boolsEq_self]; omega)
          | omega)
      replace key := key (by
        (try simp only [kept_eq, boolsL_ofBools, bytesL_ofBytes, hK, hN, hM, mK, pl, f1, f2, f3])
        first
          | done
          | rfl
          | (simp [nbeq, nble, iltB_eq, ileB_eq, ieqB_eq, bytesEq_eq, u8L_ofBytes, isBoolL_ofBools, boolsL_ofBools, bytesL_ofBytes, bytesOf_ofBytes, ofBytes_plainL, ofBools_plainL, ofBytes_length, ofBools_length, packB_length, unB_length, boolsEq_self]; done)
          | (simp [nbeq, nble, iltB_eq, ileB_eq, ieqB_eq, bytesEq_eq, u8L_ofBytes, isBoolL_ofBools, boolsL_ofBools, bytesL_ofBytes, bytesOf_ofBytes, ofBytes_plainL, ofBools_plainL, ofBytes_length, ofBools_length, packB_length, unB_length, boolsEq_self]; omega)
          | omega)
      replace key := key (by
        (try simp only [kept_eq, boolsL_ofBools, bytesL_ofBytes, hK, hN, hM, mK, pl, f1, f2, f3])
        first
          | done
          | rfl
          | (simp [nbeq, nble, iltB_eq, ileB_eq, ieqB_eq, bytesEq_eq, u8L_ofBytes, isBoolL_ofBools, boolsL_ofBools, bytesL_ofBytes, bytesOf_ofBytes, ofBytes_plainL, ofBools_plainL, ofBytes_length, ofBools_length, packB_length, unB_length, boolsEq_self]; done)
          | (simp [nbeq, nble, iltB_eq, ileB_eq, ieqB_eq, bytesEq_eq, u8L_ofBytes, isBoolL_ofBools, boolsL_ofBools, bytesL_ofBytes, bytesOf_ofBytes, ofBytes_plainL, ofBools_plainL, ofBytes_length, ofBools_length, packB_length, unB_length, boolsEq_self]; omega)
          | omega)
      replace key := key (by
        (try simp only [kept_eq, boolsL_ofBools, bytesL_ofBytes, hK, hN, hM, mK, pl, f1, f2, f3])
        first
          | done
          | rfl
          | (simp [nbeq, nble, iltB_eq, ileB_eq, ieqB_eq, bytesEq_eq, u8L_ofBytes, isBoolL_ofBools, boolsL_ofBools, bytesL_ofBytes, bytesOf_ofBytes, ofBytes_plainL, ofBools_plainL, ofBytes_length, ofBools_length, packB_length, unB_length, boolsEq_self]; done)
          | (simp [nbeq, nble, iltB_eq, ileB_eq, ieqB_eq, bytesEq_eq, u8L_ofBytes, isBoolL_ofBools, boolsL_ofBools, bytesL_ofBytes, bytesOf_ofBytes, ofBytes_plainL, ofBools_plainL, ofBytes_length, ofBools_length, packB_length, unB_length, boolsEq_self]; omega)
          | omega)
      replace key := key (by
        (try simp only [kept_eq, boolsL_ofBools, bytesL_ofBytes, hK, hN, hM, mK, pl, f1, f2, f3])
        first
          | done
          | rfl
          | (simp [nbeq, nble, iltB_eq, ileB_eq, ieqB_eq, bytesEq_eq, u8L_ofBytes, isBoolL_ofBools, boolsL_ofBools, bytesL_ofBytes, bytesOf_ofBytes, ofBytes_plainL, ofBools_plainL, ofBytes_length, ofBools_length, packB_length, unB_length, boolsEq_self]; done)
          | (simp [nbeq, nble, iltB_eq, ileB_eq, ieqB_eq, bytesEq_eq, u8L_ofBytes, isBoolL_ofBools, boolsL_ofBools, bytesL_ofBytes, bytesOf_ofBytes, ofBytes_plainL, ofBools_plainL, ofBytes_length, ofBools_length, packB_length, unB_length, boolsEq_self]; omega)
          | omega)
      replace key := key (by
        (try simp only [kept_eq, boolsL_ofBools, bytesL_ofBytes, hK, hN, hM, mK, pl, f1, f2, f3])
        first
          | done
          | rfl
          | (simp [nbeq, nble, iltB_eq, ileB_eq, ieqB_eq, bytesEq_eq, u8L_ofBytes, isBoolL_ofBools, boolsL_ofBools, bytesL_ofBytes, bytesOf_ofBytes, ofBytes_plainL, ofBools_plainL, ofBytes_length, ofBools_length, packB_length, unB_length, boolsEq_self]; done)
          | (simp [nbeq, nble, iltB_eq, ileB_eq, ieqB_eq, bytesEq_eq, u8L_ofBytes, isBoolL_ofBools, boolsL_ofBools, bytesL_ofBytes, bytesOf_ofBytes, ofBytes_plainL, ofBools_plainL, ofBytes_length, ofBools_length, packB_length, unB_length, boolsEq_self]; omega)
          | omega)
      replace key := key (by
        (try simp only [kept_eq, boolsL_ofBools, bytesL_ofBytes, hK, hN, hM, mK, pl, f1, f2, f3])
        first
          | done
          | rfl
          | (simp [nbeq, nble, iltB_eq, ileB_eq, ieqB_eq, bytesEq_eq, u8L_ofBytes, isBoolL_ofBools, boolsL_ofBools, bytesL_ofBytes, bytesOf_ofBytes, ofBytes_plainL, ofBools_plainL, ofBytes_length, ofBools_length, packB_length, unB_length, boolsEq_self]; done)
          | (simp [nbeq, nble, iltB_eq, ileB_eq, ieqB_eq, bytesEq_eq, u8L_ofBytes, isBoolL_ofBools, boolsL_ofBools, bytesL_ofBytes, bytesOf_ofBytes, ofBytes_plainL, ofBools_plainL, ofBytes_length, ofBools_length, packB_length, unB_length, boolsEq_self]; omega)
          | omega)
      replace key := key (by
        (try simp only [kept_eq, boolsL_ofBools, bytesL_ofBytes, hK, hN, hM, mK, pl, f1, f2, f3])
        first
          | done
          | rfl
          | (simp [nbeq, nble, iltB_eq, ileB_eq, ieqB_eq, bytesEq_eq, u8L_ofBytes, isBoolL_ofBools, boolsL_ofBools, bytesL_ofBytes, bytesOf_ofBytes, ofBytes_plainL, ofBools_plainL, ofBytes_length, ofBools_length, packB_length, unB_length, boolsEq_self]; done)
          | (simp [nbeq, nble, iltB_eq, ileB_eq, ieqB_eq, bytesEq_eq, u8L_ofBytes, isBoolL_ofBools, boolsL_ofBools, bytesL_ofBytes, bytesOf_ofBytes, ofBytes_plainL, ofBools_plainL, ofBytes_length, ofBools_length, packB_length, unB_length, boolsEq_self]; omega)
          | omega)
      replace key := key (by
        (try simp only [kept_eq, boolsL_ofBools, bytesL_ofBytes, hK, hN, hM, mK, pl, f1, f2, f3])
        first
          | done
          | rfl
          | (simp [nbeq, nble, iltB_eq, ileB_eq, ieqB_eq, bytesEq_eq, u8L_ofBytes, isBoolL_ofBools, boolsL_ofBools, bytesL_ofBytes, bytesOf_ofBytes, ofBytes_plainL, ofBools_plainL, ofBytes_length, ofBools_length, packB_length, unB_length, boolsEq_self]; done)
          | (simp [nbeq, nble, iltB_eq, ileB_eq, ieqB_eq, bytesEq_eq, u8L_ofBytes, isBoolL_ofBools, boolsL_ofBools, bytesL_ofBytes, bytesOf_ofBytes, ofBytes_plainL, ofBools_plainL, ofBytes_length, ofBools_length, packB_length, unB_length, boolsEq_self]; omega)
          | omega)
      replace key := key (by
        (try simp only [kept_eq, boolsL_ofBools, bytesL_ofBytes, hK, hN, hM, mK, pl, f1, f2, f3])
        first
          | done
          | rfl
          | (simp [nbeq, nble, iltB_eq, ileB_eq, ieqB_eq, bytesEq_eq, u8L_ofBytes, isBoolL_ofBools, boolsL_ofBools, bytesL_ofBytes, bytesOf_ofBytes, ofBytes_plainL, ofBools_plainL, ofBytes_length, ofBools_length, packB_length, unB_length, boolsEq_self]; done)
          | (simp [nbeq, nble, iltB_eq, ileB_eq, ieqB_eq, bytesEq_eq, u8L_ofBytes, isBoolL_ofBools, boolsL_ofBools, bytesL_ofBytes, bytesOf_ofBytes, ofBytes_plainL, ofBools_plainL, ofBytes_length, ofBools_length, packB_length, unB_length, boolsEq_self]; omega)
          | omega)
      replace key := key (by
        (try simp only [kept_eq, boolsL_ofBools, bytesL_ofBytes, hK, hN, hM, mK, pl, f1, f2, f3])
        first
          | done
          | rfl
          | (simp [nbeq, nble, iltB_eq, ileB_eq, ieqB_eq, bytesEq_eq, u8L_ofBytes, isBoolL_ofBools, boolsL_ofBools, bytesL_ofBytes, bytesOf_ofBytes, ofBytes_plainL, ofBools_plainL, ofBytes_length, ofBools_length, packB_length, unB_length, boolsEq_self]; done)
          | (simp [nbeq, nble, iltB_eq, ileB_eq, ieqB_eq, bytesEq_eq, u8L_ofBytes, isBoolL_ofBools, boolsL_ofBools, bytesL_ofBytes, bytesOf_ofBytes, ofBytes_plainL, ofBools_plainL, ofBytes_length, ofBools_length, packB_length, unB_length, boolsEq_self]; omega)
          | omega)
      replace key := key (by
        (try simp only [kept_eq, boolsL_ofBools, bytesL_ofBytes, hK, hN, hM, mK, pl, f1, f2, f3])
        first
          | done
          | rfl
          | (simp [nbeq, nble, iltB_eq, ileB_eq, ieqB_eq, bytesEq_eq, u8L_ofBytes, isBoolL_ofBools, boolsL_ofBools, bytesL_ofBytes, bytesOf_ofBytes, ofBytes_plainL, ofBools_plainL, ofBytes_length, ofBools_length, packB_length, unB_length, boolsEq_self]; done)
          | (simp [nbeq, nble, iltB_eq, ileB_eq, ieqB_eq, bytesEq_eq, u8L_ofBytes, isBoolL_ofBools, boolsL_ofBools, bytesL_ofBytes, bytesOf_ofBytes, ofBytes_plainL, ofBools_plainL, ofBytes_length, ofBools_length, packB_length, unB_length, boolsEq_self]; omega)
          | omega)
      replace key := key (by
        (try simp only [kept_eq, boolsL_ofBools, bytesL_ofBytes, hK, hN, hM, mK, pl, f1, f2, f3])
        first
          | done
          | rfl
          | (simp [nbeq, nble, iltB_eq, ileB_eq, ieqB_eq, bytesEq_eq, u8L_ofBytes, isBoolL_ofBools, boolsL_ofBools, bytesL_ofBytes, bytesOf_ofBytes, ofBytes_plainL, ofBools_plainL, ofBytes_length, ofBools_length, packB_length, unB_length, boolsEq_self]; done)
          | (simp [nbeq, nble, iltB_eq, ileB_eq, ieqB_eq, bytesEq_eq, u8L_ofBytes, isBoolL_ofBools, boolsL_ofBools, bytesL_ofBytes, bytesOf_ofBytes, ofBytes_plainL, ofBools_plainL, ofBytes_length, ofBools_length, packB_length, unB_length, boolsEq_self]; omega)
          | omega)
      replace key := key (by
        (try simp only [kept_eq, boolsL_ofBools, bytesL_ofBytes, hK, hN, hM, mK, pl, f1, f2, f3])
        first
          | done
          | rfl
          | (simp [nbeq, nble, iltB_eq, ileB_eq, ieqB_eq, bytesEq_eq, u8L_ofBytes, isBoolL_ofBools, boolsL_ofBools, bytesL_ofBytes, bytesOf_ofBytes, ofBytes_plainL, ofBools_plainL, ofBytes_length, ofBools_length, packB_length, unB_length, boolsEq_self]; done)
          | (simp [nbeq, nble, iltB_eq, ileB_eq, ieqB_eq, bytesEq_eq, u8L_ofBytes, isBoolL_ofBools, boolsL_ofBools, bytesL_ofBytes, bytesOf_ofBytes, ofBytes_plainL, ofBools_plainL, ofBytes_length, ofBools_length, packB_length, unB_length, boolsEq_self]; omega)
          | omega)
      replace key := key (by
        (try simp only [kept_eq, boolsL_ofBools, bytesL_ofBytes, hK, hN, hM, mK, pl, f1, f2, f3])
        first
          | done
          | rfl
          | (simp [nbeq, nble, iltB_eq, ileB_eq, ieqB_eq, bytesEq_eq, u8L_ofBytes, isBoolL_ofBools, boolsL_ofBools, bytesL_ofBytes, bytesOf_ofBytes, ofBytes_plainL, ofBools_plainL, ofBytes_length, ofBools_length, packB_length, unB_length, boolsEq_self]; done)
          | (simp [nbeq, nble, iltB_eq, ileB_eq, ieqB_eq, bytesEq_eq, u8L_ofBytes, isBoolL_ofBools, boolsL_ofBools, bytesL_ofBytes, bytesOf_ofBytes, ofBytes_plainL, ofBools_plainL, ofBytes_length, ofBools_length, packB_length, unB_length, boolsEq_self]; omega)
          | omega)
      replace key := key (by
        (try simp only [kept_eq, boolsL_ofBools, bytesL_ofBytes, hK, hN, hM, mK, pl, f1, f2, f3])
        first
          | done
          | rfl
          | (simp [nbeq, nble, iltB_eq, ileB_eq, ieqB_eq, bytesEq_eq, u8L_ofBytes, isBoolL_ofBools, boolsL_ofBools, bytesL_ofBytes, bytesOf_ofBytes, ofBytes_plainL, ofBools_plainL, ofBytes_length, ofBools_length, packB_length, unB_length, boolsEq_self]; done)
          | (simp [nbeq, nble, iltB_eq, ileB_eq, ieqB_eq, bytesEq_eq, u8L_ofBytes, isBoolL_ofBools, boolsL_ofBools, bytesL_ofBytes, bytesOf_ofBytes, ofBytes_plainL, ofBools_plainL, ofBytes_length, ofBools_length, packB_length, unB_length, boolsEq_self]; omega)
          | omega)
      replace key := key (by
        (try simp only [kept_eq, boolsL_ofBools, bytesL_ofBytes, hK, hN, hM, mK, pl, f1, f2, f3])
        first
          | done
          | rfl
          | (simp [nbeq, nble, iltB_eq, ileB_eq, ieqB_eq, bytesEq_eq, u8L_ofBytes, isBoolL_ofBools, boolsL_ofBools, bytesL_ofBytes, bytesOf_ofBytes, ofBytes_plainL, ofBools_plainL, ofBytes_length, ofBools_length, packB_length, unB_length, boolsEq_self]; done)
          | (simp [nbeq, nble, iltB_eq, ileB_eq, ieqB_eq, bytesEq_eq, u8L_ofBytes, isBoolL_ofBools, boolsL_ofBools, bytesL_ofBytes, bytesOf_ofBytes, ofBytes_plainL, ofBools_plainL, ofBytes_length, ofBools_length, packB_length, unB_length, boolsEq_self]; omega)
          | omega)
      replace key := key (by
        (try simp only [kept_eq, boolsL_ofBools, bytesL_ofBytes, hK, hN, hM, mK, pl, f1, f2, f3])
        first
          | done
          | rfl
          | (simp [nbeq, nble, iltB_eq, ileB_eq, ieqB_eq, bytesEq_eq, u8L_ofBytes, isBoolL_ofBools, boolsL_ofBools, bytesL_ofBytes, bytesOf_ofBytes, ofBytes_plainL, ofBools_plainL, ofBytes_length, ofBools_length, packB_length, unB_length, boolsEq_self]; done)
          | (simp [nbeq, nble, iltB_eq, ileB_eq, ieqB_eq, bytesEq_eq, u8L_ofBytes, isBoolL_ofBools, boolsL_ofBools, bytesL_ofBytes, bytesOf_ofBytes, ofBytes_plainL, ofBools_plainL, ofBytes_length, ofBools_length, packB_length, unB_length, boolsEq_self]; omega)
          | omega)
      replace key := key (by
        (try simp only [kept_eq, boolsL_ofBools, bytesL_ofBytes, hK, hN, hM, mK, pl, f1, f2, f3])
        first
          | done
          | rfl
          | (simp [nbeq, nble, iltB_eq, ileB_eq, ieqB_eq, bytesEq_eq, u8L_ofBytes, isBoolL_ofBools, boolsL_ofBools, bytesL_ofBytes, bytesOf_ofBytes, ofBytes_plainL, ofBools_plainL, ofBytes_length, ofBools_length, packB_length, unB_length, boolsEq_self]; done)
          | (simp [nbeq, nble, iltB_eq, ileB_eq, ieqB_eq, bytesEq_eq, u8L_ofBytes, isBoolL_ofBools, boolsL_ofBools, bytesL_ofBytes, bytesOf_ofBytes, ofBytes_plainL, ofBools_plainL, ofBytes_length, ofBools_length, packB_length, unB_length, boolsEq_self]; omega)
          | omega)
      replace key := key (by
        (try simp only [kept_eq, boolsL_ofBools, bytesL_ofBytes, hK, hN, hM, mK, pl, f1, f2, f3])
        first
          | done
          | rfl
          | (simp [nbeq, nble, iltB_eq, ileB_eq, ieqB_eq, bytesEq_eq, u8L_ofBytes, isBoolL_ofBools, boolsL_ofBools, bytesL_ofBytes, bytesOf_ofBytes, ofBytes_plainL, ofBools_plainL, ofBytes_length, ofBools_length, packB_length, unB_length, boolsEq_self]; done)
          | (simp [nbeq, nble, iltB_eq, ileB_eq, ieqB_eq, bytesEq_eq, u8L_ofBytes, isBoolL_ofBools, boolsL_ofBools, bytesL_ofBytes, bytesOf_ofBytes, ofBytes_plainL, ofBools_plainL, ofBytes_length, ofBools_length, packB_length, unB_length, boolsEq_self]; omega)
          | omega)
      replace key := key (by
        (try simp only [kept_eq, boolsL_ofBools, bytesL_ofBytes, hK, hN, hM, mK, pl, f1, f2, f3])
        first
          | done
          | rfl
          | (simp [nbeq, nble, iltB_eq, ileB_eq, ieqB_eq, bytesEq_eq, u8L_ofBytes, isBoolL_ofBools, boolsL_ofBools, bytesL_ofBytes, bytesOf_ofBytes, ofBytes_plainL, ofBools_plainL, ofBytes_length, ofBools_length, packB_length, unB_length, boolsEq_self]; done)
          | (simp [nbeq, nble, iltB_eq, ileB_eq, ieqB_eq, bytesEq_eq, u8L_ofBytes, isBoolL_ofBools, boolsL_ofBools, bytesL_ofBytes, bytesOf_ofBytes, ofBytes_plainL, ofBools_plainL, ofBytes_length, ofBools_length, packB_length, unB_length, boolsEq_self]; omega)
          | omega)
      replace key := key (by
        (try simp only [kept_eq, boolsL_ofBools, bytesL_ofBytes, hK, hN, hM, mK, pl, f1, f2, f3])
        first
          | done
          | rfl
          | (simp [nbeq, nble, iltB_eq, ileB_eq, ieqB_eq, bytesEq_eq, u8L_ofBytes, isBoolL_ofBools, boolsL_ofBools, bytesL_ofBytes, bytesOf_ofBytes, ofBytes_plainL, ofBools_plainL, ofBytes_length, ofBools_length, packB_length, unB_length, boolsEq_self]; done)
          | (simp [nbeq, nble, iltB_eq, ileB_eq, ieqB_eq, bytesEq_eq, u8L_ofBytes, isBoolL_ofBools, boolsL_ofBools, bytesL_ofBytes, bytesOf_ofBytes, ofBytes_plainL, ofBools_plainL, ofBytes_length, ofBools_length, packB_length, unB_length, boolsEq_self]; omega)
          | omega)
      replace key := key (by
        (try simp only [kept_eq, boolsL_ofBools, bytesL_ofBytes, hK, hN, hM, mK, pl, f1, f2, f3])
        first
          | done
          | rfl
          | (simp [nbeq, nble, iltB_eq, ileB_eq, ieqB_eq, bytesEq_eq, u8L_ofBytes, isBoolL_ofBools, boolsL_ofBools, bytesL_ofBytes, bytesOf_ofBytes, ofBytes_plainL, ofBools_plainL, ofBytes_length, ofBools_length, packB_length, unB_length, boolsEq_self]; done)
          | (simp [nbeq, nble, iltB_eq, ileB_eq, ieqB_eq, bytesEq_eq, u8L_ofBytes, isBoolL_ofBools, boolsL_ofBools, bytesL_ofBytes, bytesOf_ofBytes, ofBytes_plainL, ofBools_plainL, ofBytes_length, ofBools_length, packB_length, unB_length, boolsEq_self]; omega)
          | omega)
      replace key := key (by
        (try simp only [kept_eq, boolsL_ofBools, bytesL_ofBytes, hK, hN, hM, mK, pl, f1, f2, f3])
        first
          | done
          | rfl
          | (simp [nbeq, nble, iltB_eq, ileB_eq, ieqB_eq, bytesEq_eq, u8L_ofBytes, isBoolL_ofBools, boolsL_ofBools, bytesL_ofBytes, bytesOf_ofBytes, ofBytes_plainL, ofBools_plainL, ofBytes_length, ofBools_length, packB_length, unB_length, boolsEq_self]; done)
          | (simp [nbeq, nble, iltB_eq, ileB_eq, ieqB_eq, bytesEq_eq, u8L_ofBytes, isBoolL_ofBools, boolsL_ofBools, bytesL_ofBytes, bytesOf_ofBytes, ofBytes_plainL, ofBools_plainL, ofBytes_length, ofBools_length, packB_length, unB_length, boolsEq_self]; omega)
          | omega)
      replace key := key (by
        (try simp only [kept_eq, boolsL_ofBools, bytesL_ofBytes, hK, hN, hM, mK, pl, f1, f2, f3])
        first
          | done
          | rfl
          | (simp [nbeq, nble, iltB_eq, ileB_eq, ieqB_eq, bytesEq_eq, u8L_ofBytes, isBoolL_ofBools, boolsL_ofBools, bytesL_ofBytes, bytesOf_ofBytes, ofBytes_plainL, ofBools_plainL, ofBytes_length, ofBools_length, packB_length, unB_length, boolsEq_self]; done)
          | (simp [nbeq, nble, iltB_eq, ileB_eq, ieqB_eq, bytesEq_eq, u8L_ofBytes, isBoolL_ofBools, boolsL_ofBools, bytesL_ofBytes, bytesOf_ofBytes, ofBytes_plainL, ofBools_plainL, ofBytes_length, ofBools_length, packB_length, unB_length, boolsEq_self]; omega)
          | omega)
      replace key := key (by
        (try simp only [kept_eq, boolsL_ofBools, bytesL_ofBytes, hK, hN, hM, mK, pl, f1, f2, f3])
        first
          | done
          | rfl
          | (simp [nbeq, nble, iltB_eq, ileB_eq, ieqB_eq, bytesEq_eq, u8L_ofBytes, isBoolL_ofBools, boolsL_ofBools, bytesL_ofBytes, bytesOf_ofBytes, ofBytes_plainL, ofBools_plainL, ofBytes_length, ofBools_length, packB_length, unB_length, boolsEq_self]; done)
          | (simp [nbeq, nble, iltB_eq, ileB_eq, ieqB_eq, bytesEq_eq, u8L_ofBytes, isBoolL_ofBools, boolsL_ofBools, bytesL_ofBytes, bytesOf_ofBytes, ofBytes_plainL, ofBools_plainL, ofBytes_length, ofBools_length, packB_length, unB_length, boolsEq_self]; omega)
          | omega)
      replace key := key (by
        (try simp only [kept_eq, boolsL_ofBools, bytesL_ofBytes, hK, hN, hM, mK, pl, f1, f2, f3])
        first
          | done
          | rfl
          | (simp [nbeq, nble, iltB_eq, ileB_eq, ieqB_eq, bytesEq_eq, u8L_ofBytes, isBoolL_ofBools, boolsL_ofBools, bytesL_ofBytes, bytesOf_ofBytes, ofBytes_plainL, ofBools_plainL, ofBytes_length, ofBools_length, packB_length, unB_length, boolsEq_self]; done)
          | (simp [nbeq, nble, iltB_eq, ileB_eq, ieqB_eq, bytesEq_eq, u8L_ofBytes, isBoolL_ofBools, boolsL_ofBools, bytesL_ofBytes, bytesOf_ofBytes, ofBytes_plainL, ofBools_plainL, ofBytes_length, ofBools_length, packB_length, unB_length, boolsEq_self]; omega)
          | omega)
      replace key := key (by
        (try simp only [kept_eq, boolsL_ofBools, bytesL_ofBytes, hK, hN, hM, mK, pl, f1, f2, f3])
        first
          | done
          | rfl
          | (simp [nbeq, nble, iltB_eq, ileB_eq, ieqB_eq, bytesEq_eq, u8L_ofBytes, isBoolL_ofBools, boolsL_ofBools, bytesL_ofBytes, bytesOf_ofBytes, ofBytes_plainL, ofBools_plainL, ofBytes_length, ofBools_length, packB_length, unB_length, boolsEq_self]; done)
          | (simp [nbeq, nble, iltB_eq, ileB_eq, ieqB_eq, bytesEq_eq, u8L_ofBytes, isBoolL_ofBools, boolsL_ofBools, bytesL_ofBytes, bytesOf_ofBytes, ofBytes_plainL, ofBools_plainL, ofBytes_length, ofBools_length, packB_length, unB_length, boolsEq_self]; omega)
          | omega)
      replace key := key (by
        (try simp only [kept_eq, boolsL_ofBools, bytesL_ofBytes, hK, hN, hM, mK, pl, f1, f2, f3])
        first
          | done
          | rfl
          | (simp [nbeq, nble, iltB_eq, ileB_eq, ieqB_eq, bytesEq_eq, u8L_ofBytes, isBoolL_ofBools, boolsL_ofBools, bytesL_ofBytes, bytesOf_ofBytes, ofBytes_plainL, ofBools_plainL, ofBytes_length, ofBools_length, packB_length, unB_length, boolsEq_self]; done)
          | (simp [nbeq, nble, iltB_eq, ileB_eq, ieqB_eq, bytesEq_eq, u8L_ofBytes, isBoolL_ofBools, boolsL_ofBools, bytesL_ofBytes, bytesOf_ofBytes, ofBytes_plainL, ofBools_plainL, ofBytes_length, ofBools_length, packB_length, unB_length, boolsEq_self]; omega)
          | omega)
      replace key := key (by
        (try simp only [kept_eq, boolsL_ofBools, bytesL_ofBytes, hK, hN, hM, mK, pl, f1, f2, f3])
        first
          | done
          | rfl
          | (simp [nbeq, nble, iltB_eq, ileB_eq, ieqB_eq, bytesEq_eq, u8L_ofBytes, isBoolL_ofBools, boolsL_ofBools, bytesL_ofBytes, bytesOf_ofBytes, ofBytes_plainL, ofBools_plainL, ofBytes_length, ofBools_length, packB_length, unB_length, boolsEq_self]; done)
          | (simp [nbeq, nble, iltB_eq, ileB_eq, ieqB_eq, bytesEq_eq, u8L_ofBytes, isBoolL_ofBools, boolsL_ofBools, bytesL_ofBytes, bytesOf_ofBytes, ofBytes_plainL, ofBools_plainL, ofBytes_length, ofBools_length, packB_length, unB_length, boolsEq_self]; omega)
          | omega)
      obtain ⟨h', h, _⟩ := key
      exact ⟨h', h⟩
    have g1 : rowCut (ofBools (unB b n)) 0 (n * 1) = ofBools (unB b n) := by
      rw [rowCut_ofBools, List.drop_zero, List.take_of_length_le (by rw [unB_length]; omega)]
    cases tb : tightB b n with
    | true =>
      have g2 : packB ((n + 7) / 8) (unB b n) = b := by rw [← h3]; exact packB_unB b n tb
      have g3 : rowCut (ofBytes b) 0 ((n + 7) / 8) = ofBytes b := by rw [← h3]; exact bb
      have key := wp_ok a0 l.length (ofBools l) a1 b.length (ofBytes b) n
      replace key := key (by
        (try simp only [kept_eq, boolsL_ofBools, bytesL_ofBytes, hK, hN, hM, mK, mb, pl, f1, f2, f3, pn, tb, g1, g2, g3])
        first
          | done
          | rfl
          | (simp [nbeq, nble, iltB_eq, ileB_eq, ieqB_eq, bytesEq_eq, u8L_ofBytes, isBoolL_ofBools, boolsL_ofBools, bytesL_ofBytes, bytesOf_ofBytes, ofBytes_plainL, ofBools_plainL, ofBytes_length, ofBools_length, packB_length, unB_length, boolsEq_self, tb]; done)
          | (simp [nbeq, nble, iltB_eq, ileB_eq, ieqB_eq, bytesEq_eq, u8L_ofBytes, isBoolL_ofBools, boolsL_ofBools, bytesL_ofBytes, bytesOf_ofBytes, ofBytes_plainL, ofBools_plainL, ofBytes_length, ofBools_length, packB_length, unB_length, boolsEq_self]; omega)
          | omega)
      replace key := key (by
        (try simp only [kept_eq, boolsL_ofBools, bytesL_ofBytes, hK, hN, hM, mK, mb, pl, f1, f2, f3, pn, tb, g1, g2, g3])
        first
          | done
          | rfl
          | (simp [nbeq, nble, iltB_eq, ileB_eq, ieqB_eq, bytesEq_eq, u8L_ofBytes, isBoolL_ofBools, boolsL_ofBools, bytesL_ofBytes, bytesOf_ofBytes, ofBytes_plainL, ofBools_plainL, ofBytes_length, ofBools_length, packB_length, unB_length, boolsEq_self, tb]; done)
          | (simp [nbeq, nble, iltB_eq, ileB_eq, ieqB_eq, bytesEq_eq, u8L_ofBytes, isBoolL_ofBools, boolsL_ofBools, bytesL_ofBytes, bytesOf_ofBytes, ofBytes_plainL, ofBools_plainL, ofBytes_length, ofBools_length, packB_length, unB_length, boolsEq_self]; omega)
          | omega)
      replace key := key (by
        (try simp only [kept_eq, boolsL_ofBools, bytesL_ofBytes, hK, hN, hM, mK, mb, pl, f1, f2, f3, pn, tb, g1, g2, g3])
        first
          | done
          | rfl
          | (simp [nbeq, nble, iltB_eq, ileB_eq, ieqB_eq, bytesEq_eq, u8L_ofBytes, isBoolL_ofBools, boolsL_ofBools, bytesL_ofBytes, bytesOf_ofBytes, ofBytes_plainL, ofBools_plainL, ofBytes_length, ofBools_length, packB_length, unB_length, boolsEq_self, tb]; done)
          | (simp [nbeq, nble, iltB_eq, ileB_eq, ieqB_eq, bytesEq_eq, u8L_ofBytes, isBoolL_ofBools, boolsL_ofBools, bytesL_ofBytes, bytesOf_ofBytes, ofBytes_plainL, ofBools_plainL, ofBytes_length, ofBools_length, packB_length, unB_length, boolsEq_self]; omega)
          | omega)
      replace key := key (by
        (try simp only [kept_eq, boolsL_ofBools, bytesL_ofBytes, hK, hN, hM, mK, mb, pl, f1, f2, f3, pn, tb, g1, g2, g3])
        first
          | done
          | rfl
          | (simp [nbeq, nble, iltB_eq, ileB_eq, ieqB_eq, bytesEq_eq, u8L_ofBytes, isBoolL_ofBools, boolsL_ofBools, bytesL_ofBytes, bytesOf_ofBytes, ofBytes_plainL, ofBools_plainL, ofBytes_length, ofBools_length, packB_length, unB_length, boolsEq_self, tb]; done)
          | (simp [nbeq, nble, iltB_eq, ileB_eq, ieqB_eq, bytesEq_eq, u8L_ofBytes, isBoolL_ofBools, boolsL_ofBools, bytesL_ofBytes, bytesOf_ofBytes, ofBytes_plainL, ofBools_plainL, ofBytes_length, ofBools_length, packB_length, unB_length, boolsEq_self]; omega)
          | omega)
      replace key := key (by
        (try simp only [kept_eq, boolsL_ofBools, bytesL_ofBytes, hK, hN, hM, mK, mb, pl, f1, f2, f3, pn, tb, g1, g2, g3])
        first
          | done
          | rfl
          | (simp [nbeq, nble, iltB_eq, ileB_eq, ieqB_eq, bytesEq_eq, u8L_ofBytes, isBoolL_ofBools, boolsL_ofBools, bytesL_ofBytes, bytesOf_ofBytes, ofBytes_plainL, ofBools_plainL, ofBytes_length, ofBools_length, packB_length, unB_length, boolsEq_self, tb]; done)
          | (simp [nbeq, nble, iltB_eq, ileB_eq, ieqB_eq, bytesEq_eq, u8L_ofBytes, isBoolL_ofBools, boolsL_ofBools, bytesL_ofBytes, bytesOf_ofBytes, ofBytes_plainL, ofBools_plainL, ofBytes_length, ofBools_length, packB_length, unB_length, boolsEq_self]; omega)
          | omega)
      replace key := key (by
        (try simp only [kept_eq, boolsL_ofBools, bytesL_ofBytes, hK, hN, hM, mK, mb, pl, f1, f2, f3, pn, tb, g1, g2, g3])
        first
          | done
          | rfl
          | (simp [nbeq, nble, iltB_eq, ileB_eq, ieqB_eq, bytesEq_eq, u8L_ofBytes, isBoolL_ofBools, boolsL_ofBools, bytesL_ofBytes, bytesOf_ofBytes, ofBytes_plainL, ofBools_plainL, ofBytes_length, ofBools_length, packB_length, unB_length, boolsEq_self, tb]; done)
          | (simp [nbeq, nble, iltB_eq, ileB_eq, ieqB_eq, bytesEq_eq, u8L_ofBytes, isBoolL_ofBools, boolsL_ofBools, bytesL_ofBytes, bytesOf_ofBytes, ofBytes_plainL, ofBools_plainL, ofBytes_length, ofBools_length, packB_length, unB_length, boolsEq_self]; omega)
          | omega)
      replace key := key (by
        (try simp only [kept_eq, boolsL_ofBools, bytesL_ofBytes, hK, hN, hM, mK, mb, pl, f1, f2, f3, pn, tb, g1, g2, g3])
        first
          | done
          | rfl
          | (simp [nbeq, nble, iltB_eq, ileB_eq, ieqB_eq, bytesEq_eq, u8L_ofBytes, isBoolL_ofBools, boolsL_ofBools, bytesL_ofBytes, bytesOf_ofBytes, ofBytes_plainL, ofBools_plainL, ofBytes_length, ofBools_length, packB_length, unB_length, boolsEq_self, tb]; done)
          | (simp [nbeq, nble, iltB_eq, ileB_eq, ieqB_eq, bytesEq_eq, u8L_ofBytes, isBoolL_ofBools, boolsL_ofBools, bytesL_ofBytes, bytesOf_ofBytes, ofBytes_plainL, ofBools_plainL, ofBytes_length, ofBools_length, packB_length, unB_length, boolsEq_self]; omega)
          | omega)
      replace key := key (by
        (try simp only [kept_eq, boolsL_ofBools, bytesL_ofBytes, hK, hN, hM, mK, mb, pl, f1, f2, f3, pn, tb, g1, g2, g3])
        first
          | done
          | rfl
          | (simp [nbeq, nble, iltB_eq, ileB_eq, ieqB_eq, bytesEq_eq, u8L_ofBytes, isBoolL_ofBools, boolsL_ofBools, bytesL_ofBytes, bytesOf_ofBytes, ofBytes_plainL, ofBools_plainL, ofBytes_length, ofBools_length, packB_length, unB_length, boolsEq_self, tb]; done)
          | (simp [nbeq, nble, iltB_eq, ileB_eq, ieqB_eq, bytesEq_eq, u8L_ofBytes, isBoolL_ofBools, boolsL_ofBools, bytesL_ofBytes, bytesOf_ofBytes, ofBytes_plainL, ofBools_plainL, ofBytes_length, ofBools_length, packB_length, unB_length, boolsEq_self]; omega)
          | omega)
      replace key := key (by
        (try simp only [kept_eq, boolsL_ofBools, bytesL_ofBytes, hK, hN, hM, mK, mb, pl, f1, f2, f3, pn, tb, g1, g2, g3])
        first
          | done
          | rfl
          | (simp [nbeq, nble, iltB_eq, ileB_eq, ieqB_eq, bytesEq_eq, u8L_ofBytes, isBoolL_ofBools, boolsL_ofBools, bytesL_ofBytes, bytesOf_ofBytes, ofBytes_plainL, ofBools_plainL, ofBytes_length, ofBools_length, packB_length, unB_length, boolsEq_self, tb]; done)
          | (simp [nbeq, nble, iltB_eq, ileB_eq, ieqB_eq, bytesEq_eq, u8L_ofBytes, isBoolL_ofBools, boolsL_ofBools, bytesL_ofBytes, bytesOf_ofBytes, ofBytes_plainL, ofBools_plainL, ofBytes_length, ofBools_length, packB_length, unB_length, boolsEq_self]; omega)
          | omega)
      replace key := key (by
        (try simp only [kept_eq, boolsL_ofBools, bytesL_ofBytes, hK, hN, hM, mK, mb, pl, f1, f2, f3, pn, tb, g1, g2, g3])
        first
          | done
          | rfl
          | (simp [nbeq, nble, iltB_eq, ileB_eq, ieqB_eq, bytesEq_eq, u8L_ofBytes, isBoolL_ofBools, boolsL_ofBools, bytesL_ofBytes, bytesOf_ofBytes, ofBytes_plainL, ofBools_plainL, ofBytes_length, ofBools_length, packB_length, unB_length, boolsEq_self, tb]; done)
          | (simp [nbeq, nble, iltB_eq, ileB_eq, ieqB_eq, bytesEq_eq, u8L_ofBytes, isBoolL_ofBools, boolsL_ofBools, bytesL_ofBytes, bytesOf_ofBytes, ofBytes_plainL, ofBools_plainL, ofBytes_length, ofBools_length, packB_length, unB_length, boolsEq_self]; omega)
          | omega)
      replace key := key (by
        (try simp only [kept_eq, boolsL_ofBools, bytesL_ofBytes, hK, hN, hM, mK, mb, pl, f1, f2, f3, pn, tb, g1, g2, g3])
        first
          | done
          | rfl
          | (simp [nbeq, nble, iltB_eq, ileB_eq, ieqB_eq, bytesEq_eq, u8L_ofBytes, isBoolL_ofBools, boolsL_ofBools, bytesL_ofBytes, bytesOf_ofBytes, ofBytes_plainL, ofBools_plainL, ofBytes_length, ofBools_length, packB_length, unB_length, boolsEq_self, tb]; done)
          | (simp [nbeq, nble, iltB_eq, ileB_eq, ieqB_eq, bytesEq_eq, u8L_ofBytes, isBoolL_ofBools, boolsL_ofBools, bytesL_ofBytes, bytesOf_ofBytes, ofBytes_plainL, ofBools_plainL, ofBytes_length, ofBools_length, packB_length, unB_length, boolsEq_self]; omega)
          | omega)
      replace key := key (by
        (try simp only [kept_eq, boolsL_ofBools, bytesL_ofBytes, hK, hN, hM, mK, mb, pl, f1, f2, f3, pn, tb, g1, g2, g3])
        first
          | done
          | rfl
          | (simp [nbeq, nble, iltB_eq, ileB_eq, ieqB_eq, bytesEq_eq, u8L_ofBytes, isBoolL_ofBools, boolsL_ofBools, bytesL_ofBytes, bytesOf_ofBytes, ofBytes_plainL, ofBools_plainL, ofBytes_length, ofBools_length, packB_length, unB_length, boolsEq_self, tb]; done)
          | (simp [nbeq, nble, iltB_eq, ileB_eq, ieqB_eq, bytesEq_eq, u8L_ofBytes, isBoolL_ofBools, boolsL_ofBools, bytesL_ofBytes, bytesOf_ofBytes, ofBytes_plainL, ofBools_plainL, ofBytes_length, ofBools_length, packB_length, unB_length, boolsEq_self]; omega)
          | omega)
      replace key := key (by
        (try simp only [kept_eq, boolsL_ofBools, bytesL_ofBytes, hK, hN, hM, mK, mb, pl, f1, f2, f3, pn, tb, g1, g2, g3])
        first
          | done
          | rfl
          | (simp [nbeq, nble, iltB_eq, ileB_eq, ieqB_eq, bytesEq_eq, u8L_ofBytes, isBoolL_ofBools, boolsL_ofBools, bytesL_ofBytes, bytesOf_ofBytes, ofBytes_plainL, ofBools_plainL, ofBytes_length, ofBools_length, packB_length, unB_length, boolsEq_self, tb]; done)
          | (simp [nbeq, nble, iltB_eq, ileB_eq, ieqB_eq, bytesEq_eq, u8L_ofBytes, isBoolL_ofBools, boolsL_ofBools, bytesL_ofBytes, bytesOf_ofBytes, ofBytes_plainL, ofBools_plainL, ofBytes_length, ofBools_length, packB_length, unB_length, boolsEq_self]; omega)
          | omega)
      replace key := key (by
        (try simp only [kept_eq, boolsL_ofBools, bytesL_ofBytes, hK, hN, hM, mK, mb, pl, f1, f2, f3, pn, tb, g1, g2, g3])
        first
          | done
          | rfl
          | (simp [nbeq, nble, iltB_eq, ileB_eq, ieqB_eq, bytesEq_eq, u8L_ofBytes, isBoolL_ofBools, boolsL_ofBools, bytesL_ofBytes, bytesOf_ofBytes, ofBytes_plainL, ofBools_plainL, ofBytes_length, ofBools_length, packB_length, unB_length, boolsEq_self, tb]; done)
          | (simp [nbeq, nble, iltB_eq, ileB_eq, ieqB_eq, bytesEq_eq, u8L_ofBytes, isBoolL_ofBools, boolsL_ofBools, bytesL_ofBytes, bytesOf_ofBytes, ofBytes_plainL, ofBools_plainL, ofBytes_length, ofBools_length, packB_length, unB_length, boolsEq_self]; omega)
          | omega)
      replace key := key (by
        (try simp only [kept_eq, boolsL_ofBools, bytesL_ofBytes, hK, hN, hM, mK, mb, pl, f1, f2, f3, pn, tb, g1, g2, g3])
        first
          | done
          | rfl
          | (simp [nbeq, nble, iltB_eq, ileB_eq, ieqB_eq, bytesEq_eq, u8L_ofBytes, isBoolL_ofBools, boolsL_ofBools, bytesL_ofBytes, bytesOf_ofBytes, ofBytes_plainL, ofBools_plainL, ofBytes_length, ofBools_length, packB_length, unB_length, boolsEq_self, tb]; done)
          | (simp [nbeq, nble, iltB_eq, ileB_eq, ieqB_eq, bytesEq_eq, u8L_ofBytes, isBoolL_ofBools, boolsL_ofBools, bytesL_ofBytes, bytesOf_ofBytes, ofBytes_plainL, ofBools_plainL, ofBytes_length, ofBools_length, packB_length, unB_length, boolsEq_self]; omega)
          | omega)
      replace key := key (by
        (try simp only [kept_eq, boolsL_ofBools, bytesL_ofBytes, hK, hN, hM, mK, mb, pl, f1, f2, f3, pn, tb, g1, g2, g3])
        first
          | done
          | rfl
          | (simp [nbeq, nble, iltB_eq, ileB_eq, ieqB_eq, bytesEq_eq, u8L_ofBytes, isBoolL_ofBools, boolsL_ofBools, bytesL_ofBytes, bytesOf_ofBytes, ofBytes_plainL, ofBools_plainL, ofBytes_length, ofBools_length, packB_length, unB_length, boolsEq_self, tb]; done)
          | (simp [nbeq, nble, iltB_eq, ileB_eq, ieqB_eq, bytesEq_eq, u8L_ofBytes, isBoolL_ofBools, boolsL_ofBools, bytesL_ofBytes, bytesOf_ofBytes, ofBytes_plainL, ofBools_plainL, ofBytes_length, ofBools_length, packB_length, unB_length, boolsEq_self]; omega)
          | omega)
      replace key := key (by
        (try simp only [kept_eq, boolsL_ofBools, bytesL_ofBytes, hK, hN, hM, mK, mb, pl, f1, f2, f3, pn, tb, g1, g2, g3])
        first
          | done
          | rfl
          | (simp [nbeq, nble, iltB_eq, ileB_eq, ieqB_eq, bytesEq_eq, u8L_ofBytes, isBoolL_ofBools, boolsL_ofBools, bytesL_ofBytes, bytesOf_ofBytes, ofBytes_plainL, ofBools_plainL, ofBytes_length, ofBools_length, packB_length, unB_length, boolsEq_self, tb]; done)
          | (simp [nbeq, nble, iltB_eq, ileB_eq, ieqB_eq, bytesEq_eq, u8L_ofBytes, isBoolL_ofBools, boolsL_ofBools, bytesL_ofBytes, bytesOf_ofBytes, ofBytes_plainL, ofBools_plainL, ofBytes_length, ofBools_length, packB_length, unB_length, boolsEq_self]; omega)
          | omega)
      replace key := key (by
        (try simp only [kept_eq, boolsL_ofBools, bytesL_ofBytes, hK, hN, hM, mK, mb, pl, f1, f2, f3, pn, tb, g1, g2, g3])
        first
          | done
          | rfl
          | (simp [nbeq, nble, iltB_eq, ileB_eq, ieqB_eq, bytesEq_eq, u8L_ofBytes, isBoolL_ofBools, boolsL_ofBools, bytesL_ofBytes, bytesOf_ofBytes, ofBytes_plainL, ofBools_plainL, ofBytes_length, ofBools_length, packB_length, unB_length, boolsEq_self, tb]; done)
          | (simp [nbeq, nble, iltB_eq, ileB_eq, ieqB_eq, bytesEq_eq, u8L_ofBytes, isBoolL_ofBools, boolsL_ofBools, bytesL_ofBytes, bytesOf_ofBytes, ofBytes_plainL, ofBools_plainL, ofBytes_length, ofBools_length, packB_length, unB_length, boolsEq_self]; omega)
          | omega)
      replace key := key (by
        (try simp only [kept_eq, boolsL_ofBools, bytesL_ofBytes, hK, hN, hM, mK, mb, pl, f1, f2, f3, pn, tb, g1, g2, g3])
        first
          | done
          | rfl
          | (simp [nbeq, nble, iltB_eq, ileB_eq, ieqB_eq, bytesEq_eq, u8L_ofBytes, isBoolL_ofBools, boolsL_ofBools, bytesL_ofBytes, bytesOf_ofBytes, ofBytes_plainL, ofBools_plainL, ofBytes_length, ofBools_length, packB_length, unB_length, boolsEq_self, tb]; done)
          | (simp [nbeq, nble, iltB_eq, ileB_eq, ieqB_eq, bytesEq_eq, u8L_ofBytes, isBoolL_ofBools, boolsL_ofBools, bytesL_ofBytes, bytesOf_ofBytes, ofBytes_plainL, ofBools_plainL, ofBytes_length, ofBools_length, packB_length, unB_length, boolsEq_self]; omega)
          | omega)
      replace key := key (by
        (try simp only [kept_eq, boolsL_ofBools, bytesL_ofBytes, hK, hN, hM, mK, mb, pl, f1, f2, f3, pn, tb, g1, g2, g3])
        first
          | done
          | rfl
          | (simp [nbeq, nble, iltB_eq, ileB_eq, ieqB_eq, bytesEq_eq, u8L_ofBytes, isBoolL_ofBools, boolsL_ofBools, bytesL_ofBytes, bytesOf_ofBytes, ofBytes_plainL, ofBools_plainL, ofBytes_length, ofBools_length, packB_length, unB_length, boolsEq_self, tb]; done)
          | (simp [nbeq, nble, iltB_eq, ileB_eq, ieqB_eq, bytesEq_eq, u8L_ofBytes, isBoolL_ofBools, boolsL_ofBools, bytesL_ofBytes, bytesOf_ofBytes, ofBytes_plainL, ofBools_plainL, ofBytes_length, ofBools_length, packB_length, unB_length, boolsEq_self]; omega)
          | omega)
      replace key := key (by
        (try simp only [kept_eq, boolsL_ofBools, bytesL_ofBytes, hK, hN, hM, mK, mb, pl, f1, f2, f3, pn, tb, g1, g2, g3])
        first
          | done
          | rfl
          | (simp [nbeq, nble, iltB_eq, ileB_eq, ieqB_eq, bytesEq_eq, u8L_ofBytes, isBoolL_ofBools, boolsL_ofBools, bytesL_ofBytes, bytesOf_ofBytes, ofBytes_plainL, ofBools_plainL, ofBytes_length, ofBools_length, packB_length, unB_length, boolsEq_self, tb]; done)
          | (simp [nbeq, nble, iltB_eq, ileB_eq, ieqB_eq, bytesEq_eq, u8L_ofBytes, isBoolL_ofBools, boolsL_ofBools, bytesL_ofBytes, bytesOf_ofBytes, ofBytes_plainL, ofBools_plainL, ofBytes_length, ofBools_length, packB_length, unB_length, boolsEq_self]; omega)
          | omega)
      replace key := key (by
        (try simp only [kept_eq, boolsL_ofBools, bytesL_ofBytes, hK, hN, hM, mK, mb, pl, f1, f2, f3, pn, tb, g1, g2, g3])
        first
          | done
          | rfl
          | (simp [nbeq, nble, iltB_eq, ileB_eq, ieqB_eq, bytesEq_eq, u8L_ofBytes, isBoolL_ofBools, boolsL_ofBools, bytesL_ofBytes, bytesOf_ofBytes, ofBytes_plainL, ofBools_plainL, ofBytes_length, ofBools_length, packB_length, unB_length, boolsEq_self, tb]; done)
          | (simp [nbeq, nble, iltB_eq, ileB_eq, ieqB_eq, bytesEq_eq, u8L_ofBytes, isBoolL_ofBools, boolsL_ofBools, bytesL_ofBytes, bytesOf_ofBytes, ofBytes_plainL, ofBools_plainL, ofBytes_length, ofBools_length, packB_length, unB_length, boolsEq_self]; omega)
          | omega)
      replace key := key (by
        (try simp only [kept_eq, boolsL_ofBools, bytesL_ofBytes, hK, hN, hM, mK, mb, pl, f1, f2, f3, pn, tb, g1, g2, g3])
        first
          | done
          | rfl
          | (simp [nbeq, nble, iltB_eq, ileB_eq, ieqB_eq, bytesEq_eq, u8L_ofBytes, isBoolL_ofBools, boolsL_ofBools, bytesL_ofBytes, bytesOf_ofBytes, ofBytes_plainL, ofBools_plainL, ofBytes_length, ofBools_length, packB_length, unB_length, boolsEq_self, tb]; done)
          | (simp [nbeq, nble, iltB_eq, ileB_eq, ieqB_eq, bytesEq_eq, u8L_ofBytes, isBoolL_ofBools, boolsL_ofBools, bytesL_ofBytes, bytesOf_ofBytes, ofBytes_plainL, ofBools_plainL, ofBytes_length, ofBools_length, packB_length, unB_length, boolsEq_self]; omega)
          | omega)
      replace key := key (by
        (try simp only [kept_eq, boolsL_ofBools, bytesL_ofBytes, hK, hN, hM, mK, mb, pl, f1, f2, f3, pn, tb, g1, g2, g3])
        first
          | done
          | rfl
          | (simp [nbeq, nble, iltB_eq, ileB_eq, ieqB_eq, bytesEq_eq, u8L_ofBytes, isBoolL_ofBools, boolsL_ofBools, bytesL_ofBytes, bytesOf_ofBytes, ofBytes_plainL, ofBools_plainL, ofBytes_length, ofBools_length, packB_length, unB_length, boolsEq_self, tb]; done)
          | (simp [nbeq, nble, iltB_eq, ileB_eq, ieqB_eq, bytesEq_eq, u8L_ofBytes, isBoolL_ofBools, boolsL_ofBools, bytesL_ofBytes, bytesOf_ofBytes, ofBytes_plainL, ofBools_plainL, ofBytes_length, ofBools_length, packB_length, unB_length, boolsEq_self]; omega)
          | omega)
      replace key := key (by
        (try simp only [kept_eq, boolsL_ofBools, bytesL_ofBytes, hK, hN, hM, mK, mb, pl, f1, f2, f3, pn, tb, g1, g2, g3])
        first
          | done
          | rfl
          | (simp [nbeq, nble, iltB_eq, ileB_eq, ieqB_eq, bytesEq_eq, u8L_ofBytes, isBoolL_ofBools, boolsL_ofBools, bytesL_ofBytes, bytesOf_ofBytes, ofBytes_plainL, ofBools_plainL, ofBytes_length, ofBools_length, packB_length, unB_length, boolsEq_self, tb]; done)
          | (simp [nbeq, nble, iltB_eq, ileB_eq, ieqB_eq, bytesEq_eq, u8L_ofBytes, isBoolL_ofBools, boolsL_ofBools, bytesL_ofBytes, bytesOf_ofBytes, ofBytes_plainL, ofBools_plainL, ofBytes_length, ofBools_length, packB_length, unB_length, boolsEq_self]; omega)
          | omega)
      replace key := key (by
        (try simp only [kept_eq, boolsL_ofBools, bytesL_ofBytes, hK, hN, hM, mK, mb, pl, f1, f2, f3, pn, tb, g1, g2, g3])
        first
          | done
          | rfl
          | (simp [nbeq, nble, iltB_eq, ileB_eq, ieqB_eq, bytesEq_eq, u8L_ofBytes, isBoolL_ofBools, boolsL_ofBools, bytesL_ofBytes, bytesOf_ofBytes, ofBytes_plainL, ofBools_plainL, ofBytes_length, ofBools_length, packB_length, unB_length, boolsEq_self, tb]; done)
          | (simp [nbeq, nble, iltB_eq, ileB_eq, ieqB_eq, bytesEq_eq, u8L_ofBytes, isBoolL_ofBools, boolsL_ofBools, bytesL_ofBytes, bytesOf_ofBytes, ofBytes_plainL, ofBools_plainL, ofBytes_length, ofBools_length, packB_length, unB_length, boolsEq_self]; omega)
          | omega)
      replace key := key (by
        (try simp only [kept_eq, boolsL_ofBools, bytesL_ofBytes, hK, hN, hM, mK, mb, pl, f1, f2, f3, pn, tb, g1, g2, g3])
        first
          | done
          | rfl
          | (simp [nbeq, nble, iltB_eq, ileB_eq, ieqB_eq, bytesEq_eq, u8L_ofBytes, isBoolL_ofBools, boolsL_ofBools, bytesL_ofBytes, bytesOf_ofBytes, ofBytes_plainL, ofBools_plainL, ofBytes_length, ofBools_length, packB_length, unB_length, boolsEq_self, tb]; done)
          | (simp [nbeq, nble, iltB_eq, ileB_eq, ieqB_eq, bytesEq_eq, u8L_ofBytes, isBoolL_ofBools, boolsL_ofBools, bytesL_ofBytes, bytesOf_ofBytes, ofBytes_plainL, ofBools_plainL, ofBytes_length, ofBools_length, packB_length, unB_length, boolsEq_self]; omega)
          | omega)
      replace key := key (by
        (try simp only [kept_eq, boolsL_ofBools, bytesL_ofBytes, hK, hN, hM, mK, mb, pl, f1, f2, f3, pn, tb, g1, g2, g3])
        first
          | done
          | rfl
          | (simp [nbeq, nble, iltB_eq, ileB_eq, ieqB_eq, bytesEq_eq, u8L_ofBytes, isBoolL_ofBools, boolsL_ofBools, bytesL_ofBytes, bytesOf_ofBytes, ofBytes_plainL, ofBools_plainL, ofBytes_length, ofBools_length, packB_length, unB_length, boolsEq_self, tb]; done)
          | (simp [nbeq, nble, iltB_eq, ileB_eq, ieqB_eq, bytesEq_eq, u8L_ofBytes, isBoolL_ofBools, boolsL_ofBools, bytesL_ofBytes, bytesOf_ofBytes, ofBytes_plainL, ofBools_plainL, ofBytes_length, ofBools_length, packB_length, unB_length, boolsEq_self]; omega)
          | omega)
      replace key := key (by
        (try simp only [kept_eq, boolsL_ofBools, bytesL_ofBytes, hK, hN, hM, mK, mb, pl, f1, f2, f3, pn, tb, g1, g2, g3])
        first
          | done
          | rfl
          | (simp [nbeq, nble, iltB_eq, ileB_eq, ieqB_eq, bytesEq_eq, u8L_ofBytes, isBoolL_ofBools, boolsL_ofBools, bytesL_ofBytes, bytesOf_ofBytes, ofBytes_plainL, ofBools_plainL, ofBytes_length, ofBools_length, packB_length, unB_length, boolsEq_self, tb]; done)
          | (simp [nbeq, nble, iltB_eq, ileB_eq, ieqB_eq, bytesEq_eq, u8L_ofBytes, isBoolL_ofBools, boolsL_ofBools, bytesL_ofBytes, bytesOf_ofBytes, ofBytes_plainL, ofBools_plainL, ofBytes_length, ofBools_length, packB_length, unB_length, boolsEq_self]; omega)
          | omega)
      replace key := key (by
        (try simp only [kept_eq, boolsL_ofBools, bytesL_ofBytes, hK, hN, hM, mK, mb, pl, f1, f2, f3, pn, tb, g1, g2, g3])
        first
          | done
          | rfl
          | (simp [nbeq, nble, iltB_eq, ileB_eq, ieqB_eq, bytesEq_eq, u8L_ofBytes, isBoolL_ofBools, boolsL_ofBools, bytesL_ofBytes, bytesOf_ofBytes, ofBytes_plainL, ofBools_plainL, ofBytes_length, ofBools_length, packB_length, unB_length, boolsEq_self, tb]; done)
          | (simp [nbeq, nble, iltB_eq, ileB_eq, ieqB_eq, bytesEq_eq, u8L_ofBytes, isBoolL_ofBools, boolsL_ofBools, bytesL_ofBytes, bytesOf_ofBytes, ofBytes_plainL, ofBools_plainL, ofBytes_length, ofBools_length, packB_length, unB_length, boolsEq_self]; omega)
          | omega)
      replace key := key (by
        (try simp only [kept_eq, boolsL_ofBools, bytesL_ofBytes, hK, hN, hM, mK, mb, pl, f1, f2, f3, pn, tb, g1, g2, g3])
        first
          | done
          | rfl
          | (simp [nbeq, nble, iltB_eq, ileB_eq, ieqB_eq, bytesEq_eq, u8L_ofBytes, isBoolL_ofBools, boolsL_ofBools, bytesL_ofBytes, bytesOf_ofBytes, ofBytes_plainL, ofBools_plainL, ofBytes_length, ofBools_length, packB_length, unB_length, boolsEq_self, tb]; done)
          | (simp [nbeq, nble, iltB_eq, ileB_eq, ieqB_eq, bytesEq_eq, u8L_ofBytes, isBoolL_ofBools, boolsL_ofBools, bytesL_ofBytes, bytesOf_ofBytes, ofBytes_plainL, ofBools_plainL, ofBytes_length, ofBools_length, packB_length, unB_length, boolsEq_self]; omega)
          | omega)
      replace key := key (by
        (try simp only [kept_eq, boolsL_ofBools, bytesL_ofBytes, hK, hN, hM, mK, mb, pl, f1, f2, f3, pn, tb, g1, g2, g3])
        first
          | done
          | rfl
          | (simp [nbeq, nble, iltB_eq, ileB_eq, ieqB_eq, bytesEq_eq, u8L_ofBytes, isBoolL_ofBools, boolsL_ofBools, bytesL_ofBytes, bytesOf_ofBytes, ofBytes_plainL, ofBools_plainL, ofBytes_length, ofBools_length, packB_length, unB_length, boolsEq_self, tb]; done)
          | (simp [nbeq, nble, iltB_eq, ileB_eq, ieqB_eq, bytesEq_eq, u8L_ofBytes, isBoolL_ofBools, boolsL_ofBools, bytesL_ofBytes, bytesOf_ofBytes, ofBytes_plainL, ofBools_plainL, ofBytes_length, ofBools_length, packB_length, unB_length, boolsEq_self]; omega)
          | omega)
      replace key := key (by
        (try simp only [kept_eq, boolsL_ofBools, bytesL_ofBytes, hK, hN, hM, mK, mb, pl, f1, f2, f3, pn, tb, g1, g2, g3])
        first
          | done
          | rfl
          | (simp [nbeq, nble, iltB_eq, ileB_eq, ieqB_eq, bytesEq_eq, u8L_ofBytes, isBoolL_ofBools, boolsL_ofBools, bytesL_ofBytes, bytesOf_ofBytes, ofBytes_plainL, ofBools_plainL, ofBytes_length, ofBools_length, packB_length, unB_length, boolsEq_self, tb]; done)
          | (simp [nbeq, nble, iltB_eq, ileB_eq, ieqB_eq, bytesEq_eq, u8L_ofBytes, isBoolL_ofBools, boolsL_ofBools, bytesL_ofBytes, bytesOf_ofBytes, ofBytes_plainL, ofBools_plainL, ofBytes_length, ofBools_length, packB_length, unB_length, boolsEq_self]; omega)
          | omega)
      replace key := key (by
        (try simp only [kept_eq, boolsL_ofBools, bytesL_ofBytes, hK, hN, hM, mK, mb, pl, f1, f2, f3, pn, tb, g1, g2, g3])
        first
          | done
          | rfl
          | (simp [nbeq, nble, iltB_eq, ileB_eq, ieqB_eq, bytesEq_eq, u8L_ofBytes, isBoolL_ofBools, boolsL_ofBools, bytesL_ofBytes, bytesOf_ofBytes, ofBytes_plainL, ofBools_plainL, ofBytes_length, ofBools_length, packB_length, unB_length, boolsEq_self, tb]; done)
          | (simp [nbeq, nble, iltB_eq, ileB_eq, ieqB_eq, bytesEq_eq, u8L_ofBytes, isBoolL_ofBools, boolsL_ofBools, bytesL_ofBytes, bytesOf_ofBytes, ofBytes_plainL, ofBools_plainL, ofBytes_length, ofBools_length, packB_length, unB_length, boolsEq_self]; omega)
          | omega)
      replace key := key (by
        (try simp only [kept_eq, boolsL_ofBools, bytesL_ofBytes, hK, hN, hM, mK, mb, pl, f1, f2, f3, pn, tb, g1, g2, g3])
        first
          | done
          | rfl
          | (simp [nbeq, nble, iltB_eq, ileB_eq, ieqB_eq, bytesEq_eq, u8L_ofBytes, isBoolL_ofBools, boolsL_ofBools, bytesL_ofBytes, bytesOf_ofBytes, ofBytes_plainL, ofBools_plainL, ofBytes_length, ofBools_length, packB_length, unB_length, boolsEq_self, tb]; done)
          | (simp [nbeq, nble, iltB_eq, ileB_eq, ieqB_eq, bytesEq_eq, u8L_ofBytes, isBoolL_ofBools, boolsL_ofBools, bytesL_ofBytes, bytesOf_ofBytes, ofBytes_plainL, ofBools_plainL, ofBytes_length, ofBools_length, packB_length, unB_length, boolsEq_self]; omega)
          | omega)
      replace key := key (by
        (try simp only [kept_eq, boolsL_ofBools, bytesL_ofBytes, hK, hN, hM, mK, mb, pl, f1, f2, f3, pn, tb, g1, g2, g3])
        first
          | done
          | rfl
          | (simp [nbeq, nble, iltB_eq, ileB_eq, ieqB_eq, bytesEq_eq, u8L_ofBytes, isBoolL_ofBools, boolsL_ofBools, bytesL_ofBytes, bytesOf_ofBytes, ofBytes_plainL, ofBools_plainL, ofBytes_length, ofBools_length, packB_length, unB_length, boolsEq_self, tb]; done)
          | (simp [nbeq, nble, iltB_eq, ileB_eq, ieqB_eq, bytesEq_eq, u8L_ofBytes, isBoolL_ofBools, boolsL_ofBools, bytesL_ofBytes, bytesOf_ofBytes, ofBytes_plainL, ofBools_plainL, ofBytes_length, ofBools_length, packB_length, unB_length, boolsEq_self]; omega)
          | omega)
      replace key := key (by
        (try simp only [kept_eq, boolsL_ofBools, bytesL_ofBytes, hK, hN, hM, mK, mb, pl, f1, f2, f3, pn, tb, g1, g2, g3])
        first
          | done
          | rfl
          | (simp [nbeq, nble, iltB_eq, ileB_eq, ieqB_eq, bytesEq_eq, u8L_ofBytes, isBoolL_ofBools, boolsL_ofBools, bytesL_ofBytes, bytesOf_ofBytes, ofBytes_plainL, ofBools_plainL, ofBytes_length, ofBools_length, packB_length, unB_length, boolsEq_self, tb]; done)
          | (simp [nbeq, nble, iltB_eq, ileB_eq, ieqB_eq, bytesEq_eq, u8L_ofBytes, isBoolL_ofBools, boolsL_ofBools, bytesL_ofBytes, bytesOf_ofBytes, ofBytes_plainL, ofBools_plainL, ofBytes_length, ofBools_length, packB_length, unB_length, boolsEq_self]; omega)
          | omega)
      replace key := key (by
        (try simp only [kept_eq, boolsL_ofBools, bytesL_ofBytes, hK, hN, hM, mK, mb, pl, f1, f2, f3, pn, tb, g1, g2, g3])
        first
          | done
          | rfl
          | (simp [nbeq, nble, iltB_eq, ileB_eq, ieqB_eq, bytesEq_eq, u8L_ofBytes, isBoolL_ofBools, boolsL_ofBools, bytesL_ofBytes, bytesOf_ofBytes, ofBytes_plainL, ofBools_plainL, ofBytes_length, ofBools_length, packB_length, unB_length, boolsEq_self, tb]; done)
          | (simp [nbeq, nble, iltB_eq, ileB_eq, ieqB_eq, bytesEq_eq, u8L_ofBytes, isBoolL_ofBools, boolsL_ofBools, bytesL_ofBytes, bytesOf_ofBytes, ofBytes_plainL, ofBools_plainL, ofBytes_length, ofBools_length, packB_length, unB_length, boolsEq_self]; omega)
          | omega)
      replace key := key (by
        (try simp only [kept_eq, boolsL_ofBools, bytesL_ofBytes, hK, hN, hM, mK, mb, pl, f1, f2, f3, pn, tb, g1, g2, g3])
        first
          | done
          | rfl
          | (simp [nbeq, nble, iltB_eq, ileB_eq, ieqB_eq, bytesEq_eq, u8L_ofBytes, isBoolL_ofBools, boolsL_ofBools, bytesL_ofBytes, bytesOf_ofBytes, ofBytes_plainL, ofBools_plainL, ofBytes_length, ofBools_length, packB_length, unB_length, boolsEq_self, tb]; done)
          | (simp [nbeq, nble, iltB_eq, ileB_eq, ieqB_eq, bytesEq_eq, u8L_ofBytes, isBoolL_ofBools, boolsL_ofBools, bytesL_ofBytes, bytesOf_ofBytes, ofBytes_plainL, ofBools_plainL, ofBytes_length, ofBools_length, packB_length, unB_length, boolsEq_self]; omega)
          | omega)
      replace key := key (by
        (try simp only [kept_eq, boolsL_ofBools, bytesL_ofBytes, hK, hN, hM, mK, mb, pl, f1, f2, f3, pn, tb, g1, g2, g3])
        first
          | done
          | rfl
          | (simp [nbeq, nble, iltB_eq, ileB_eq, ieqB_eq, bytesEq_eq, u8L_ofBytes, isBoolL_ofBools, boolsL_ofBools, bytesL_ofBytes, bytesOf_ofBytes, ofBytes_plainL, ofBools_plainL, ofBytes_length, ofBools_length, packB_length, unB_length, boolsEq_self, tb]; done)
          | (simp [nbeq, nble, iltB_eq, ileB_eq, ieqB_eq, bytesEq_eq, u8L_ofBytes, isBoolL_ofBools, boolsL_ofBools, bytesL_ofBytes, bytesOf_ofBytes, ofBytes_plainL, ofBools_plainL, ofBytes_length, ofBools_length, packB_length, unB_length, boolsEq_self]; omega)
          | omega)
      replace key := key (by
        (try simp only [kept_eq, boolsL_ofBools, bytesL_ofBytes, hK, hN, hM, mK, mb, pl, f1, f2, f3, pn, tb, g1, g2, g3])
        first
          | done
          | rfl
          | (simp [nbeq, nble, iltB_eq, ileB_eq, ieqB_eq, bytesEq_eq, u8L_ofBytes, isBoolL_ofBools, boolsL_ofBools, bytesL_ofBytes, bytesOf_ofBytes, ofBytes_plainL, ofBools_plainL, ofBytes_length, ofBools_length, packB_length, unB_length, boolsEq_self, tb]; done)
          | (simp [nbeq, nble, iltB_eq, ileB_eq, ieqB_eq, bytesEq_eq, u8L_ofBytes, isBoolL_ofBools, boolsL_ofBools, bytesL_ofBytes, bytesOf_ofBytes, ofBytes_plainL, ofBools_plainL, ofBytes_length, ofBools_length, packB_length, unB_length, boolsEq_self]; omega)
          | omega)
      replace key := key (by
        (try simp only [kept_eq, boolsL_ofBools, bytesL_ofBytes, hK, hN, hM, mK, mb, pl, f1, f2, f3, pn, tb, g1, g2, g3])
        first
          | done
          | rfl
          | (simp [nbeq, nble, iltB_eq, ileB_eq, ieqB_eq, bytesEq_eq, u8L_ofBytes, isBoolL_ofBools, boolsL_ofBools, bytesL_ofBytes, bytesOf_ofBytes, ofBytes_plainL, ofBools_plainL, ofBytes_length, ofBools_length, packB_length, unB_length, boolsEq_self, tb]; done)
          | (simp [nbeq, nble, iltB_eq, ileB_eq, ieqB_eq, bytesEq_eq, u8L_ofBytes, isBoolL_ofBools, boolsL_ofBools, bytesL_ofBytes, bytesOf_ofBytes, ofBytes_plainL, ofBools_plainL, ofBytes_length, ofBools_length, packB_length, unB_length, boolsEq_self]; omega)
          | omega)
      replace key := key (by
        (try simp only [kept_eq, boolsL_ofBools, bytesL_ofBytes, hK, hN, hM, mK, mb, pl, f1, f2, f3, pn, tb, g1, g2, g3])
        first
          | done
          | rfl
          | (simp [nbeq, nble, iltB_eq, ileB_eq, ieqB_eq, bytesEq_eq, u8L_ofBytes, isBoolL_ofBools, boolsL_ofBools, bytesL_ofBytes, bytesOf_ofBytes, ofBytes_plainL, ofBools_plainL, ofBytes_length, ofBools_length, packB_length, unB_length, boolsEq_self, tb]; done)
          | (simp [nbeq, nble, iltB_eq, ileB_eq, ieqB_eq, bytesEq_eq, u8L_ofBytes, isBoolL_ofBools, boolsL_ofBools, bytesL_ofBytes, bytesOf_ofBytes, ofBytes_plainL, ofBools_plainL, ofBytes_length, ofBools_length, packB_length, unB_length, boolsEq_self]; omega)
          | omega)
      replace key := key (by
        (try simp only [kept_eq, boolsL_ofBools, bytesL_ofBytes, hK, hN, hM, mK, mb, pl, f1, f2, f3, pn, tb, g1, g2, g3])
        first
          | done
          | rfl
          | (simp [nbeq, nble, iltB_eq, ileB_eq, ieqB_eq, bytesEq_eq, u8L_ofBytes, isBoolL_ofBools, boolsL_ofBools, bytesL_ofBytes, bytesOf_ofBytes, ofBytes_plainL, ofBools_plainL, ofBytes_length, ofBools_length, packB_length, unB_length, boolsEq_self, tb]; done)
          | (simp [nbeq, nble, iltB_eq, ileB_eq, ieqB_eq, bytesEq_eq, u8L_ofBytes, isBoolL_ofBools, boolsL_ofBools, bytesL_ofBytes, bytesOf_ofBytes, ofBytes_plainL, ofBools_plainL, ofBytes_length, ofBools_length, packB_length, unB_length, boolsEq_self]; omega)
          | omega)
      replace key := key (by
        (try simp only [kept_eq, boolsL_ofBools, bytesL_ofBytes, hK, hN, hM, mK, mb, pl, f1, f2, f3, pn, tb, g1, g2, g3])
        first
          | done
          | rfl
          | (simp [nbeq, nble, iltB_eq, ileB_eq, ieqB_eq, bytesEq_eq, u8L_ofBytes, isBoolL_ofBools, boolsL_ofBools, bytesL_ofBytes, bytesOf_ofBytes, ofBytes_plainL, ofBools_plainL, ofBytes_length, ofBools_length, packB_length, unB_length, boolsEq_self, tb]; done)
          | (simp [nbeq, nble, iltB_eq, ileB_eq, ieqB_eq, bytesEq_eq, u8L_ofBytes, isBoolL_ofBools, boolsL_ofBools, bytesL_ofBytes, bytesOf_ofBytes, ofBytes_plainL, ofBools_plainL, ofBytes_length, ofBools_length, packB_length, unB_length, boolsEq_self]; omega)
          | omega)
      obtain ⟨h', h, _⟩ := key
      simp only [kept_eq, boolsL_ofBools, bytesL_ofBytes, hK, hN, hM, mK, mb, pl, f1, f2, f3, pn, tb, g1, g2, g3, bytesEq_eq, beq_self_eq_true] at h
      exact ⟨h', h⟩
    | false =>
      have key := wp_no a0 l.length (ofBools l) a1 b.length (ofBytes b) n
      replace key := key (by
        (try simp only [kept_eq, boolsL_ofBools, bytesL_ofBytes, hK, hN, hM, mK, mb, pl, f1, f2, f3, pn, tb, g1])
        first
          | done
          | rfl
          | (simp [nbeq, nble, iltB_eq, ileB_eq, ieqB_eq, bytesEq_eq, u8L_ofBytes, isBoolL_ofBools, boolsL_ofBools, bytesL_ofBytes, bytesOf_ofBytes, ofBytes_plainL, ofBools_plainL, ofBytes_length, ofBools_length, packB_length, unB_length, boolsEq_self, tb]; done)
          | (simp [nbeq, nble, iltB_eq, ileB_eq, ieqB_eq, bytesEq_eq, u8L_ofBytes, isBoolL_ofBools, boolsL_ofBools, bytesL_ofBytes, bytesOf_ofBytes, ofBytes_plainL, ofBools_plainL, ofBytes_length, ofBools_length, packB_length, unB_length, boolsEq_self]; omega)
          | omega)
      replace key := key (by
        (try simp only [kept_eq, boolsL_ofBools, bytesL_ofBytes, hK, hN, hM, mK, mb, pl, f1, f2, f3, pn, tb, g1])
        first
          | done
          | rfl
          | (simp [nbeq, nble, iltB_eq, ileB_eq, ieqB_eq, bytesEq_eq, u8L_ofBytes, isBoolL_ofBools, boolsL_ofBools, bytesL_ofBytes, bytesOf_ofBytes, ofBytes_plainL, ofBools_plainL, ofBytes_length, ofBools_length, packB_length, unB_length, boolsEq_self, tb]; done)
          | (simp [nbeq, nble, iltB_eq, ileB_eq, ieqB_eq, bytesEq_eq, u8L_ofBytes, isBoolL_ofBools, boolsL_ofBools, bytesL_ofBytes, bytesOf_ofBytes, ofBytes_plainL, ofBools_plainL, ofBytes_length, ofBools_length, packB_length, unB_length, boolsEq_self]; omega)
          | omega)
      replace key := key (by
        (try simp only [kept_eq, boolsL_ofBools, bytesL_ofBytes, hK, hN, hM, mK, mb, pl, f1, f2, f3, pn, tb, g1])
        first
          | done
          | rfl
          | (simp [nbeq, nble, iltB_eq, ileB_eq, ieqB_eq, bytesEq_eq, u8L_ofBytes, isBoolL_ofBools, boolsL_ofBools, bytesL_ofBytes, bytesOf_ofBytes, ofBytes_plainL, ofBools_plainL, ofBytes_length, ofBools_length, packB_length, unB_length, boolsEq_self, tb]; done)
          | (simp [nbeq, nble, iltB_eq, ileB_eq, ieqB_eq, bytesEq_eq, u8L_ofBytes, isBoolL_ofBools, boolsL_ofBools, bytesL_ofBytes, bytesOf_ofBytes, ofBytes_plainL, ofBools_plainL, ofBytes_length, ofBools_length, packB_length, unB_length, boolsEq_self]; omega)
          | omega)
      replace key := key (by
        (try simp only [kept_eq, boolsL_ofBools, bytesL_ofBytes, hK, hN, hM, mK, mb, pl, f1, f2, f3, pn, tb, g1])
        first
          | done
          | rfl
          | (simp [nbeq, nble, iltB_eq, ileB_eq, ieqB_eq, bytesEq_eq, u8L_ofBytes, isBoolL_ofBools, boolsL_ofBools, bytesL_ofBytes, bytesOf_ofBytes, ofBytes_plainL, ofBools_plainL, ofBytes_length, ofBools_length, packB_length, unB_length, boolsEq_self, tb]; done)
          | (simp [nbeq, nble, iltB_eq, ileB_eq, ieqB_eq, bytesEq_eq, u8L_ofBytes, isBoolL_ofBools, boolsL_ofBools, bytesL_ofBytes, bytesOf_ofBytes, ofBytes_plainL, ofBools_plainL, ofBytes_length, ofBools_length, packB_length, unB_length, boolsEq_self]; omega)
          | omega)
      replace key := key (by
        (try simp only [kept_eq, boolsL_ofBools, bytesL_ofBytes, hK, hN, hM, mK, mb, pl, f1, f2, f3, pn, tb, g1])
        first
          | done
          | rfl
          | (simp [nbeq, nble, iltB_eq, ileB_eq, ieqB_eq, bytesEq_eq, u8L_ofBytes, isBoolL_ofBools, boolsL_ofBools, bytesL_ofBytes, bytesOf_ofBytes, ofBytes_plainL, ofBools_plainL, ofBytes_length, ofBools_length, packB_length, unB_length, boolsEq_self, tb]; done)
          | (simp [nbeq, nble, iltB_eq, ileB_eq, ieqB_eq, bytesEq_eq, u8L_ofBytes, isBoolL_ofBools, boolsL_ofBools, bytesL_ofBytes, bytesOf_ofBytes, ofBytes_plainL, ofBools_plainL, ofBytes_length, ofBools_length, packB_length, unB_length, boolsEq_self]; omega)
          | omega)
      replace key := key (by
        (try simp only [kept_eq, boolsL_ofBools, bytesL_ofBytes, hK, hN, hM, mK, mb, pl, f1, f2, f3, pn, tb, g1])
        first
          | done
          | rfl
          | (simp [nbeq, nble, iltB_eq, ileB_eq, ieqB_eq, bytesEq_eq, u8L_ofBytes, isBoolL_ofBools, boolsL_ofBools, bytesL_ofBytes, bytesOf_ofBytes, ofBytes_plainL, ofBools_plainL, ofBytes_length, ofBools_length, packB_length, unB_length, boolsEq_self, tb]; done)
          | (simp [nbeq, nble, iltB_eq, ileB_eq, ieqB_eq, bytesEq_eq, u8L_ofBytes, isBoolL_ofBools, boolsL_ofBools, bytesL_ofBytes, bytesOf_ofBytes, ofBytes_plainL, ofBools_plainL, ofBytes_length, ofBools_length, packB_length, unB_length, boolsEq_self]; omega)
          | omega)
      replace key := key (by
        (try simp only [kept_eq, boolsL_ofBools, bytesL_ofBytes, hK, hN, hM, mK, mb, pl, f1, f2, f3, pn, tb, g1])
        first
          | done
          | rfl
          | (simp [nbeq, nble, iltB_eq, ileB_eq, ieqB_eq, bytesEq_eq, u8L_ofBytes, isBoolL_ofBools, boolsL_ofBools, bytesL_ofBytes, bytesOf_ofBytes, ofBytes_plainL, ofBools_plainL, ofBytes_length, ofBools_length, packB_length, unB_length, boolsEq_self, tb]; done)
          | (simp [nbeq, nble, iltB_eq, ileB_eq, ieqB_eq, bytesEq_eq, u8L_ofBytes, isBoolL_ofBools, boolsL_ofBools, bytesL_ofBytes, bytesOf_ofBytes, ofBytes_plainL, ofBools_plainL, ofBytes_length, ofBools_length, packB_length, unB_length, boolsEq_self]; omega)
          | omega)
      replace key := key (by
        (try simp only [kept_eq, boolsL_ofBools, bytesL_ofBytes, hK, hN, hM, mK, mb, pl, f1, f2, f3, pn, tb, g1])
        first
          | done
          | rfl
          | (simp [nbeq, nble, iltB_eq, ileB_eq, ieqB_eq, bytesEq_eq, u8L_ofBytes, isBoolL_ofBools, boolsL_ofBools, bytesL_ofBytes, bytesOf_ofBytes, ofBytes_plainL, ofBools_plainL, ofBytes_length, ofBools_length, packB_length, unB_length, boolsEq_self, tb]; done)
          | (simp [nbeq, nble, iltB_eq, ileB_eq, ieqB_eq, bytesEq_eq, u8L_ofBytes, isBoolL_ofBools, boolsL_ofBools, bytesL_ofBytes, bytesOf_ofBytes, ofBytes_plainL, ofBools_plainL, ofBytes_length, ofBools_length, packB_length, unB_length, boolsEq_self]; omega)
          | omega)
      replace key := key (by
        (try simp only [kept_eq, boolsL_ofBools, bytesL_ofBytes, hK, hN, hM, mK, mb, pl, f1, f2, f3, pn, tb, g1])
        first
          | done
          | rfl
          | (simp [nbeq, nble, iltB_eq, ileB_eq, ieqB_eq, bytesEq_eq, u8L_ofBytes, isBoolL_ofBools, boolsL_ofBools, bytesL_ofBytes, bytesOf_ofBytes, ofBytes_plainL, ofBools_plainL, ofBytes_length, ofBools_length, packB_length, unB_length, boolsEq_self, tb]; done)
          | (simp [nbeq, nble, iltB_eq, ileB_eq, ieqB_eq, bytesEq_eq, u8L_ofBytes, isBoolL_ofBools, boolsL_ofBools, bytesL_ofBytes, bytesOf_ofBytes, ofBytes_plainL, ofBools_plainL, ofBytes_length, ofBools_length, packB_length, unB_length, boolsEq_self]; omega)
          | omega)
      replace key := key (by
        (try simp only [kept_eq, boolsL_ofBools, bytesL_ofBytes, hK, hN, hM, mK, mb, pl, f1, f2, f3, pn, tb, g1])
        first
          | done
          | rfl
          | (simp [nbeq, nble, iltB_eq, ileB_eq, ieqB_eq, bytesEq_eq, u8L_ofBytes, isBoolL_ofBools, boolsL_ofBools, bytesL_ofBytes, bytesOf_ofBytes, ofBytes_plainL, ofBools_plainL, ofBytes_length, ofBools_length, packB_length, unB_length, boolsEq_self, tb]; done)
          | (simp [nbeq, nble, iltB_eq, ileB_eq, ieqB_eq, bytesEq_eq, u8L_ofBytes, isBoolL_ofBools, boolsL_ofBools, bytesL_ofBytes, bytesOf_ofBytes, ofBytes_plainL, ofBools_plainL, ofBytes_length, ofBools_length, packB_length, unB_length, boolsEq_self]; omega)
          | omega)
      replace key := key (by
        (try simp only [kept_eq, boolsL_ofBools, bytesL_ofBytes, hK, hN, hM, mK, mb, pl, f1, f2, f3, pn, tb, g1])
        first
          | done
          | rfl
          | (simp [nbeq, nble, iltB_eq, ileB_eq, ieqB_eq, bytesEq_eq, u8L_ofBytes, isBoolL_ofBools, boolsL_ofBools, bytesL_ofBytes, bytesOf_ofBytes, ofBytes_plainL, ofBools_plainL, ofBytes_length, ofBools_length, packB_length, unB_length, boolsEq_self, tb]; done)
          | (simp [nbeq, nble, iltB_eq, ileB_eq, ieqB_eq, bytesEq_eq, u8L_ofBytes, isBoolL_ofBools, boolsL_ofBools, bytesL_ofBytes, bytesOf_ofBytes, ofBytes_plainL, ofBools_plainL, ofBytes_length, ofBools_length, packB_length, unB_length, boolsEq_self]; omega)
          | omega)
      replace key := key (by
        (try simp only [kept_eq, boolsL_ofBools, bytesL_ofBytes, hK, hN, hM, mK, mb, pl, f1, f2, f3, pn, tb, g1])
        first
          | done
          | rfl
          | (simp [nbeq, nble, iltB_eq, ileB_eq, ieqB_eq, bytesEq_eq, u8L_ofBytes, isBoolL_ofBools, boolsL_ofBools, bytesL_ofBytes, bytesOf_ofBytes, ofBytes_plainL, ofBools_plainL, ofBytes_length, ofBools_length, packB_length, unB_length, boolsEq_self, tb]; done)
          | (simp [nbeq, nble, iltB_eq, ileB_eq, ieqB_eq, bytesEq_eq, u8L_ofBytes, isBoolL_ofBools, boolsL_ofBools, bytesL_ofBytes, bytesOf_ofBytes, ofBytes_plainL, ofBools_plainL, ofBytes_length, ofBools_length, packB_length, unB_length, boolsEq_self]; omega)
          | omega)
      replace key := key (by
        (try simp only [kept_eq, boolsL_ofBools, bytesL_ofBytes, hK, hN, hM, mK, mb, pl, f1, f2, f3, pn, tb, g1])
        first
          | done
          | rfl
          | (simp [nbeq, nble, iltB_eq, ileB_eq, ieqB_eq, bytesEq_eq, u8L_ofBytes, isBoolL_ofBools, boolsL_ofBools, bytesL_ofBytes, bytesOf_ofBytes, ofBytes_plainL, ofBools_plainL, ofBytes_length, ofBools_length, packB_length, unB_length, boolsEq_self, tb]; done)
          | (simp [nbeq, nble, iltB_eq, ileB_eq, ieqB_eq, bytesEq_eq, u8L_ofBytes, isBoolL_ofBools, boolsL_ofBools, bytesL_ofBytes, bytesOf_ofBytes, ofBytes_plainL, ofBools_plainL, ofBytes_length, ofBools_length, packB_length, unB_length, boolsEq_self]; omega)
          | omega)
      replace key := key (by
        (try simp only [kept_eq, boolsL_ofBools, bytesL_ofBytes, hK, hN, hM, mK, mb, pl, f1, f2, f3, pn, tb, g1])
        first
          | done
          | rfl
          | (simp [nbeq, nble, iltB_eq, ileB_eq, ieqB_eq, bytesEq_eq, u8L_ofBytes, isBoolL_ofBools, boolsL_ofBools, bytesL_ofBytes, bytesOf_ofBytes, ofBytes_plainL, ofBools_plainL, ofBytes_length, ofBools_length, packB_length, unB_length, boolsEq_self, tb]; done)
          | (simp [nbeq, nble, iltB_eq, ileB_eq, ieqB_eq, bytesEq_eq, u8L_ofBytes, isBoolL_ofBools, boolsL_ofBools, bytesL_ofBytes, bytesOf_ofBytes, ofBytes_plainL, ofBools_plainL, ofBytes_length, ofBools_length, packB_length, unB_length, boolsEq_self]; omega)
          | omega)
      replace key := key (by
        (try simp only [kept_eq, boolsL_ofBools, bytesL_ofBytes, hK, hN, hM, mK, mb, pl, f1, f2, f3, pn, tb, g1])
        first
          | done
          | rfl
          | (simp [nbeq, nble, iltB_eq, ileB_eq, ieqB_eq, bytesEq_eq, u8L_ofBytes, isBoolL_ofBools, boolsL_ofBools, bytesL_ofBytes, bytesOf_ofBytes, ofBytes_plainL, ofBools_plainL, ofBytes_length, ofBools_length, packB_length, unB_length, boolsEq_self, tb]; done)
          | (simp [nbeq, nble, iltB_eq, ileB_eq, ieqB_eq, bytesEq_eq, u8L_ofBytes, isBoolL_ofBools, boolsL_ofBools, bytesL_ofBytes, bytesOf_ofBytes, ofBytes_plainL, ofBools_plainL, ofBytes_length, ofBools_length, packB_length, unB_length, boolsEq_self]; omega)
          | omega)
      replace key := key (by
        (try simp only [kept_eq, boolsL_ofBools, bytesL_ofBytes, hK, hN, hM, mK, mb, pl, f1, f2, f3, pn, tb, g1])
        first
          | done
          | rfl
          | (simp [nbeq, nble, iltB_eq, ileB_eq, ieqB_eq, bytesEq_eq, u8L_ofBytes, isBoolL_ofBools, boolsL_ofBools, bytesL_ofBytes, bytesOf_ofBytes, ofBytes_plainL, ofBools_plainL, ofBytes_length, ofBools_length, packB_length, unB_length, boolsEq_self, tb]; done)
          | (simp [nbeq, nble, iltB_eq, ileB_eq, ieqB_eq, bytesEq_eq, u8L_ofBytes, isBoolL_ofBools, boolsL_ofBools, bytesL_ofBytes, bytesOf_ofBytes, ofBytes_plainL, ofBools_plainL, ofBytes_length, ofBools_length, packB_length, unB_length, boolsEq_self]; omega)
          | omega)
      replace key := key (by
        (try simp only [kept_eq, boolsL_ofBools, bytesL_ofBytes, hK, hN, hM, mK, mb, pl, f1, f2, f3, pn, tb, g1])
        first
          | done
          | rfl
          | (simp [nbeq, nble, iltB_eq, ileB_eq, ieqB_eq, bytesEq_eq, u8L_ofBytes, isBoolL_ofBools, boolsL_ofBools, bytesL_ofBytes, bytesOf_ofBytes, ofBytes_plainL, ofBools_plainL, ofBytes_length, ofBools_length, packB_length, unB_length, boolsEq_self, tb]; done)
          | (simp [nbeq, nble, iltB_eq, ileB_eq, ieqB_eq, bytesEq_eq, u8L_ofBytes, isBoolL_ofBools, boolsL_ofBools, bytesL_ofBytes, bytesOf_ofBytes, ofBytes_plainL, ofBools_plainL, ofBytes_length, ofBools_length, packB_length, unB_length, boolsEq_self]; omega)
          | omega)
      replace key := key (by
        (try simp only [kept_eq, boolsL_ofBools, bytesL_ofBytes, hK, hN, hM, mK, mb, pl, f1, f2, f3, pn, tb, g1])
        first
          | done
          | rfl
          | (simp [nbeq, nble, iltB_eq, ileB_eq, ieqB_eq, bytesEq_eq, u8L_ofBytes, isBoolL_ofBools, boolsL_ofBools, bytesL_ofBytes, bytesOf_ofBytes, ofBytes_plainL, ofBools_plainL, ofBytes_length, ofBools_length, packB_length, unB_length, boolsEq_self, tb]; done)
          | (simp [nbeq, nble, iltB_eq, ileB_eq, ieqB_eq, bytesEq_eq, u8L_ofBytes, isBoolL_ofBools, boolsL_ofBools, bytesL_ofBytes, bytesOf_ofBytes, ofBytes_plainL, ofBools_plainL, ofBytes_length, ofBools_length, packB_length, unB_length, boolsEq_self]; omega)
          | omega)
      replace key := key (by
        (try simp only [kept_eq, boolsL_ofBools, bytesL_ofBytes, hK, hN, hM, mK, mb, pl, f1, f2, f3, pn, tb, g1])
        first
          | done
          | rfl
          | (simp [nbeq, nble, iltB_eq, ileB_eq, ieqB_eq, bytesEq_eq, u8L_ofBytes, isBoolL_ofBools, boolsL_ofBools, bytesL_ofBytes, bytesOf_ofBytes, ofBytes_plainL, ofBools_plainL, ofBytes_length, ofBools_length, packB_length, unB_length, boolsEq_self, tb]; done)
          | (simp [nbeq, nble, iltB_eq, ileB_eq, ieqB_eq, bytesEq_eq, u8L_ofBytes, isBoolL_ofBools, boolsL_ofBools, bytesL_ofBytes, bytesOf_ofBytes, ofBytes_plainL, ofBools_plainL, ofBytes_length, ofBools_length, packB_length, unB_length, boolsEq_self]; omega)
          | omega)
      replace key := key (by
        (try simp only [kept_eq, boolsL_ofBools, bytesL_ofBytes, hK, hN, hM, mK, mb, pl, f1, f2, f3, pn, tb, g1])
        first
          | done
          | rfl
          | (simp [nbeq, nble, iltB_eq, ileB_eq, ieqB_eq, bytesEq_eq, u8L_ofBytes, isBoolL_ofBools, boolsL_ofBools, bytesL_ofBytes, bytesOf_ofBytes, ofBytes_plainL, ofBools_plainL, ofBytes_length, ofBools_length, packB_length, unB_length, boolsEq_self, tb]; done)
          | (simp [nbeq, nble, iltB_eq, ileB_eq, ieqB_eq, bytesEq_eq, u8L_ofBytes, isBoolL_ofBools, boolsL_ofBools, bytesL_ofBytes, bytesOf_ofBytes, ofBytes_plainL, ofBools_plainL, ofBytes_length, ofBools_length, packB_length, unB_length, boolsEq_self]; omega)
          | omega)
      replace key := key (by
        (try simp only [kept_eq, boolsL_ofBools, bytesL_ofBytes, hK, hN, hM, mK, mb, pl, f1, f2, f3, pn, tb, g1])
        first
          | done
          | rfl
          | (simp [nbeq, nble, iltB_eq, ileB_eq, ieqB_eq, bytesEq_eq, u8L_ofBytes, isBoolL_ofBools, boolsL_ofBools, bytesL_ofBytes, bytesOf_ofBytes, ofBytes_plainL, ofBools_plainL, ofBytes_length, ofBools_length, packB_length, unB_length, boolsEq_self, tb]; done)
          | (simp [nbeq, nble, iltB_eq, ileB_eq, ieqB_eq, bytesEq_eq, u8L_ofBytes, isBoolL_ofBools, boolsL_ofBools, bytesL_ofBytes, bytesOf_ofBytes, ofBytes_plainL, ofBools_plainL, ofBytes_length, ofBools_length, packB_length, unB_length, boolsEq_self]; omega)
          | omega)
      replace key := key (by
        (try simp only [kept_eq, boolsL_ofBools, bytesL_ofBytes, hK, hN, hM, mK, mb, pl, f1, f2, f3, pn, tb, g1])
        first
          | done
          | rfl
          | (simp [nbeq, nble, iltB_eq, ileB_eq, ieqB_eq, bytesEq_eq, u8L_ofBytes, isBoolL_ofBools, boolsL_ofBools, bytesL_ofBytes, bytesOf_ofBytes, ofBytes_plainL, ofBools_plainL, ofBytes_length, ofBools_length, packB_length, unB_length, boolsEq_self, tb]; done)
          | (simp [nbeq, nble, iltB_eq, ileB_eq, ieqB_eq, bytesEq_eq, u8L_ofBytes, isBoolL_ofBools, boolsL_ofBools, bytesL_ofBytes, bytesOf_ofBytes, ofBytes_plainL, ofBools_plainL, ofBytes_length, ofBools_length, packB_length, unB_length, boolsEq_self]; omega)
          | omega)
      replace key := key (by
        (try simp only [kept_eq, boolsL_ofBools, bytesL_ofBytes, hK, hN, hM, mK, mb, pl, f1, f2, f3, pn, tb, g1])
        first
          | done
          | rfl
          | (simp [nbeq, nble, iltB_eq, ileB_eq, ieqB_eq, bytesEq_eq, u8L_ofBytes, isBoolL_ofBools, boolsL_ofBools, bytesL_ofBytes, bytesOf_ofBytes, ofBytes_plainL, ofBools_plainL, ofBytes_length, ofBools_length, packB_length, unB_length, boolsEq_self, tb]; done)
          | (simp [nbeq, nble, iltB_eq, ileB_eq, ieqB_eq, bytesEq_eq, u8L_ofBytes, isBoolL_ofBools, boolsL_ofBools, bytesL_ofBytes, bytesOf_ofBytes, ofBytes_plainL, ofBools_plainL, ofBytes_length, ofBools_length, packB_length, unB_length, boolsEq_self]; omega)
          | omega)
      replace key := key (by
        (try simp only [kept_eq, boolsL_ofBools, bytesL_ofBytes, hK, hN, hM, mK, mb, pl, f1, f2, f3, pn, tb, g1])
        first
          | done
          | rfl
          | (simp [nbeq, nble, iltB_eq, ileB_eq, ieqB_eq, bytesEq_eq, u8L_ofBytes, isBoolL_ofBools, boolsL_ofBools, bytesL_ofBytes, bytesOf_ofBytes, ofBytes_plainL, ofBools_plainL, ofBytes_length, ofBools_length, packB_length, unB_length, boolsEq_self, tb]; done)
          | (simp [nbeq, nble, iltB_eq, ileB_eq, ieqB_eq, bytesEq_eq, u8L_ofBytes, isBoolL_ofBools, boolsL_ofBools, bytesL_ofBytes, bytesOf_ofBytes, ofBytes_plainL, ofBools_plainL, ofBytes_length, ofBools_length, packB_length, unB_length, boolsEq_self]; omega)
          | omega)
      replace key := key (by
        (try simp only [kept_eq, boolsL_ofBools, bytesL_ofBytes, hK, hN, hM, mK, mb, pl, f1, f2, f3, pn, tb, g1])
        first
          | done
          | rfl
          | (simp [nbeq, nble, iltB_eq, ileB_eq, ieqB_eq, bytesEq_eq, u8L_ofBytes, isBoolL_ofBools, boolsL_ofBools, bytesL_ofBytes, bytesOf_ofBytes, ofBytes_plainL, ofBools_plainL, ofBytes_length, ofBools_length, packB_length, unB_length, boolsEq_self, tb]; done)
          | (simp [nbeq, nble, iltB_eq, ileB_eq, ieqB_eq, bytesEq_eq, u8L_ofBytes, isBoolL_ofBools, boolsL_ofBools, bytesL_ofBytes, bytesOf_ofBytes, ofBytes_plainL, ofBools_plainL, ofBytes_length, ofBools_length, packB_length, unB_length, boolsEq_self]; omega)
          | omega)
      replace key := key (by
        (try simp only [kept_eq, boolsL_ofBools, bytesL_ofBytes, hK, hN, hM, mK, mb, pl, f1, f2, f3, pn, tb, g1])
        first
          | done
          | rfl
          | (simp [nbeq, nble, iltB_eq, ileB_eq, ieqB_eq, bytesEq_eq, u8L_ofBytes, isBoolL_ofBools, boolsL_ofBools, bytesL_ofBytes, bytesOf_ofBytes, ofBytes_plainL, ofBools_plainL, ofBytes_length, ofBools_length, packB_length, unB_length, boolsEq_self, tb]; done)
          | (simp [nbeq, nble, iltB_eq, ileB_eq, ieqB_eq, bytesEq_eq, u8L_ofBytes, isBoolL_ofBools, boolsL_ofBools, bytesL_ofBytes, bytesOf_ofBytes, ofBytes_plainL, ofBools_plainL, ofBytes_length, ofBools_length, packB_length, unB_length, boolsEq_self]; omega)
          | omega)
      replace key := key (by
        (try simp only [kept_eq, boolsL_ofBools, bytesL_ofBytes, hK, hN, hM, mK, mb, pl, f1, f2, f3, pn, tb, g1])
        first
          | done
          | rfl
          | (simp [nbeq, nble, iltB_eq, ileB_eq, ieqB_eq, bytesEq_eq, u8L_ofBytes, isBoolL_ofBools, boolsL_ofBools, bytesL_ofBytes, bytesOf_ofBytes, ofBytes_plainL, ofBools_plainL, ofBytes_length, ofBools_length, packB_length, unB_length, boolsEq_self, tb]; done)
          | (simp [nbeq, nble, iltB_eq, ileB_eq, ieqB_eq, bytesEq_eq, u8L_ofBytes, isBoolL_ofBools, boolsL_ofBools, bytesL_ofBytes, bytesOf_ofBytes, ofBytes_plainL, ofBools_plainL, ofBytes_length, ofBools_length, packB_length, unB_length, boolsEq_self]; omega)
          | omega)
      replace key := key (by
        (try simp only [kept_eq, boolsL_ofBools, bytesL_ofBytes, hK, hN, hM, mK, mb, pl, f1, f2, f3, pn, tb, g1])
        first
          | done
          | rfl
          | (simp [nbeq, nble, iltB_eq, ileB_eq, ieqB_eq, bytesEq_eq, u8L_ofBytes, isBoolL_ofBools, boolsL_ofBools, bytesL_ofBytes, bytesOf_ofBytes, ofBytes_plainL, ofBools_plainL, ofBytes_length, ofBools_length, packB_length, unB_length, boolsEq_self, tb]; done)
          | (simp [nbeq, nble, iltB_eq, ileB_eq, ieqB_eq, bytesEq_eq, u8L_ofBytes, isBoolL_ofBools, boolsL_ofBools, bytesL_ofBytes, bytesOf_ofBytes, ofBytes_plainL, ofBools_plainL, ofBytes_length, ofBools_length, packB_length, unB_length, boolsEq_self]; omega)
          | omega)
      replace key := key (by
        (try simp only [kept_eq, boolsL_ofBools, bytesL_ofBytes, hK, hN, hM, mK, mb, pl, f1, f2, f3, pn, tb, g1])
        first
          | done
          | rfl
          | (simp [nbeq, nble, iltB_eq, ileB_eq, ieqB_eq, bytesEq_eq, u8L_ofBytes, isBoolL_ofBools, boolsL_ofBools, bytesL_ofBytes, bytesOf_ofBytes, ofBytes_plainL, ofBools_plainL, ofBytes_length, ofBools_length, packB_length, unB_length, boolsEq_self, tb]; done)
          | (simp [nbeq, nble, iltB_eq, ileB_eq, ieqB_eq, bytesEq_eq, u8L_ofBytes, isBoolL_ofBools, boolsL_ofBools, bytesL_ofBytes, bytesOf_ofBytes, ofBytes_plainL, ofBools_plainL, ofBytes_length, ofBools_length, packB_length, unB_length, boolsEq_self]; omega)
          | omega)
      replace key := key (by
        (try simp only [kept_eq, boolsL_ofBools, bytesL_ofBytes, hK, hN, hM, mK, mb, pl, f1, f2, f3, pn, tb, g1])
        first
          | done
          | rfl
          | (simp [nbeq, nble, iltB_eq, ileB_eq, ieqB_eq, bytesEq_eq, u8L_ofBytes, isBoolL_ofBools, boolsL_ofBools, bytesL_ofBytes, bytesOf_ofBytes, ofBytes_plainL, ofBools_plainL, ofBytes_length, ofBools_length, packB_length, unB_length, boolsEq_self, tb]; done)
          | (simp [nbeq, nble, iltB_eq, ileB_eq, ieqB_eq, bytesEq_eq, u8L_ofBytes, isBoolL_ofBools, boolsL_ofBools, bytesL_ofBytes, bytesOf_ofBytes, ofBytes_plainL, ofBools_plainL, ofBytes_length, ofBools_length, packB_length, unB_length, boolsEq_self]; omega)
          | omega)
      replace key := key (by
        (try simp only [kept_eq, boolsL_ofBools, bytesL_ofBytes, hK, hN, hM, mK, mb, pl, f1, f2, f3, pn, tb, g1])
        first
          | done
          | rfl
          | (simp [nbeq, nble, iltB_eq, ileB_eq, ieqB_eq, bytesEq_eq, u8L_ofBytes, isBoolL_ofBools, boolsL_ofBools, bytesL_ofBytes, bytesOf_ofBytes, ofBytes_plainL, ofBools_plainL, ofBytes_length, ofBools_length, packB_length, unB_length, boolsEq_self, tb]; done)
          | (simp [nbeq, nble, iltB_eq, ileB_eq, ieqB_eq, bytesEq_eq, u8L_ofBytes, isBoolL_ofBools, boolsL_ofBools, bytesL_ofBytes, bytesOf_ofBytes, ofBytes_plainL, ofBools_plainL, ofBytes_length, ofBools_length, packB_length, unB_length, boolsEq_self]; omega)
          | omega)
      replace key := key (by
        (try simp only [kept_eq, boolsL_ofBools, bytesL_ofBytes, hK, hN, hM, mK, mb, pl, f1, f2, f3, pn, tb, g1])
        first
          | done
          | rfl
          | (simp [nbeq, nble, iltB_eq, ileB_eq, ieqB_eq, bytesEq_eq, u8L_ofBytes, isBoolL_ofBools, boolsL_ofBools, bytesL_ofBytes, bytesOf_ofBytes, ofBytes_plainL, ofBools_plainL, ofBytes_length, ofBools_length, packB_length, unB_length, boolsEq_self, tb]; done)
          | (simp [nbeq, nble, iltB_eq, ileB_eq, ieqB_eq, bytesEq_eq, u8L_ofBytes, isBoolL_ofBools, boolsL_ofBools, bytesL_ofBytes, bytesOf_ofBytes, ofBytes_plainL, ofBools_plainL, ofBytes_length, ofBools_length, packB_length, unB_length, boolsEq_self]; omega)
          | omega)
      replace key := key (by
        (try simp only [kept_eq, boolsL_ofBools, bytesL_ofBytes, hK, hN, hM, mK, mb, pl, f1, f2, f3, pn, tb, g1])
        first
          | done
          | rfl
          | (simp [nbeq, nble, iltB_eq, ileB_eq, ieqB_eq, bytesEq_eq, u8L_ofBytes, isBoolL_ofBools, boolsL_ofBools, bytesL_ofBytes, bytesOf_ofBytes, ofBytes_plainL, ofBools_plainL, ofBytes_length, ofBools_length, packB_length, unB_length, boolsEq_self, tb]; done)
          | (simp [nbeq, nble, iltB_eq, ileB_eq, ieqB_eq, bytesEq_eq, u8L_ofBytes, isBoolL_ofBools, boolsL_ofBools, bytesL_ofBytes, bytesOf_ofBytes, ofBytes_plainL, ofBools_plainL, ofBytes_length, ofBools_length, packB_length, unB_length, boolsEq_self]; omega)
          | omega)
      replace key := key (by
        (try simp only [kept_eq, boolsL_ofBools, bytesL_ofBytes, hK, hN, hM, mK, mb, pl, f1, f2, f3, pn, tb, g1])
        first
          | done
          | rfl
          | (simp [nbeq, nble, iltB_eq, ileB_eq, ieqB_eq, bytesEq_eq, u8L_ofBytes, isBoolL_ofBools, boolsL_ofBools, bytesL_ofBytes, bytesOf_ofBytes, ofBytes_plainL, ofBools_plainL, ofBytes_length, ofBools_length, packB_length, unB_length, boolsEq_self, tb]; done)
          | (simp [nbeq, nble, iltB_eq, ileB_eq, ieqB_eq, bytesEq_eq, u8L_ofBytes, isBoolL_ofBools, boolsL_ofBools, bytesL_ofBytes, bytesOf_ofBytes, ofBytes_plainL, ofBools_plainL, ofBytes_length, ofBools_length, packB_length, unB_length, boolsEq_self]; omega)
          | omega)
      replace key := key (by
        (try simp only [kept_eq, boolsL_ofBools, bytesL_ofBytes, hK, hN, hM, mK, mb, pl, f1, f2, f3, pn, tb, g1])
        first
          | done
          | rfl
          | (simp [nbeq, nble, iltB_eq, ileB_eq, ieqB_eq, bytesEq_eq, u8L_ofBytes, isBoolL_ofBools, boolsL_ofBools, bytesL_ofBytes, bytesOf_ofBytes, ofBytes_plainL, ofBools_plainL, ofBytes_length, ofBools_length, packB_length, unB_length, boolsEq_self, tb]; done)
          | (simp [nbeq, nble, iltB_eq, ileB_eq, ieqB_eq, bytesEq_eq, u8L_ofBytes, isBoolL_ofBools, boolsL_ofBools, bytesL_ofBytes, bytesOf_ofBytes, ofBytes_plainL, ofBools_plainL, ofBytes_length, ofBools_length, packB_length, unB_length, boolsEq_self]; omega)
          | omega)
      replace key := key (by
        (try simp only [kept_eq, boolsL_ofBools, bytesL_ofBytes, hK, hN, hM, mK, mb, pl, f1, f2, f3, pn, tb, g1])
        first
          | done
          | rfl
          | (simp [nbeq, nble, iltB_eq, ileB_eq, ieqB_eq, bytesEq_eq, u8L_ofBytes, isBoolL_ofBools, boolsL_ofBools, bytesL_ofBytes, bytesOf_ofBytes, ofBytes_plainL, ofBools_plainL, ofBytes_length, ofBools_length, packB_length, unB_length, boolsEq_self, tb]; done)
          | (simp [nbeq, nble, iltB_eq, ileB_eq, ieqB_eq, bytesEq_eq, u8L_ofBytes, isBoolL_ofBools, boolsL_ofBools, bytesL_ofBytes, bytesOf_ofBytes, ofBytes_plainL, ofBools_plainL, ofBytes_length, ofBools_length, packB_length, unB_length, boolsEq_self]; omega)
          | omega)
      replace key := key (by
        (try simp only [kept_eq, boolsL_ofBools, bytesL_ofBytes, hK, hN, hM, mK, mb, pl, f1, f2, f3, pn, tb, g1])
        first
          | done
          | rfl
          | (simp [nbeq, nble, iltB_eq, ileB_eq, ieqB_eq, bytesEq_eq, u8L_ofBytes, isBoolL_ofBools, boolsL_ofBools, bytesL_ofBytes, bytesOf_ofBytes, ofBytes_plainL, ofBools_plainL, ofBytes_length, ofBools_length, packB_length, unB_length, boolsEq_self, tb]; done)
          | (simp [nbeq, nble, iltB_eq, ileB_eq, ieqB_eq, bytesEq_eq, u8L_ofBytes, isBoolL_ofBools, boolsL_ofBools, bytesL_ofBytes, bytesOf_ofBytes, ofBytes_plainL, ofBools_plainL, ofBytes_length, ofBools_length, packB_length, unB_length, boolsEq_self]; omega)
          | omega)
      replace key := key (by
        (try simp only [kept_eq, boolsL_ofBools, bytesL_ofBytes, hK, hN, hM, mK, mb, pl, f1, f2, f3, pn, tb, g1])
        first
          | done
          | rfl
          | (simp [nbeq, nble, iltB_eq, ileB_eq, ieqB_eq, bytesEq_eq, u8L_ofBytes, isBoolL_ofBools, boolsL_ofBools, bytesL_ofBytes, bytesOf_ofBytes, ofBytes_plainL, ofBools_plainL, ofBytes_length, ofBools_length, packB_length, unB_length, boolsEq_self, tb]; done)
          | (simp [nbeq, nble, iltB_eq, ileB_eq, ieqB_eq, bytesEq_eq, u8L_ofBytes, isBoolL_ofBools, boolsL_ofBools, bytesL_ofBytes, bytesOf_ofBytes, ofBytes_plainL, ofBools_plainL, ofBytes_length, ofBools_length, packB_length, unB_length, boolsEq_self]; omega)
          | omega)
      replace key := key (by
        (try simp only [kept_eq, boolsL_ofBools, bytesL_ofBytes, hK, hN, hM, mK, mb, pl, f1, f2, f3, pn, tb, g1])
        first
          | done
          | rfl
          | (simp [nbeq, nble, iltB_eq, ileB_eq, ieqB_eq, bytesEq_eq, u8L_ofBytes, isBoolL_ofBools, boolsL_ofBools, bytesL_ofBytes, bytesOf_ofBytes, ofBytes_plainL, ofBools_plainL, ofBytes_length, ofBools_length, packB_length, unB_length, boolsEq_self, tb]; done)
          | (simp [nbeq, nble, iltB_eq, ileB_eq, ieqB_eq, bytesEq_eq, u8L_ofBytes, isBoolL_ofBools, boolsL_ofBools, bytesL_ofBytes, bytesOf_ofBytes, ofBytes_plainL, ofBools_plainL, ofBytes_length, ofBools_length, packB_length, unB_length, boolsEq_self]; omega)
          | omega)
      replace key := key (by
        (try simp only [kept_eq, boolsL_ofBools, bytesL_ofBytes, hK, hN, hM, mK, mb, pl, f1, f2, f3, pn, tb, g1])
        first
          | done
          | rfl
          | (simp [nbeq, nble, iltB_eq, ileB_eq, ieqB_eq, bytesEq_eq, u8L_ofBytes, isBoolL_ofBools, boolsL_ofBools, bytesL_ofBytes, bytesOf_ofBytes, ofBytes_plainL, ofBools_plainL, ofBytes_length, ofBools_length, packB_length, unB_length, boolsEq_self, tb]; done)
          | (simp [nbeq, nble, iltB_eq, ileB_eq, ieqB_eq, bytesEq_eq, u8L_ofBytes, isBoolL_ofBools, boolsL_ofBools, bytesL_ofBytes, bytesOf_ofBytes, ofBytes_plainL, ofBools_plainL, ofBytes_length, ofBools_length, packB_length, unB_length, boolsEq_self]; omega)
          | omega)
      obtain ⟨h', h, _⟩ := key
      exact ⟨h', h⟩
end Go.Proofs.Ytecncappdnhbaaa
end
end
