/- The plan of a region that draws its order, and its run. -/
import Derived.Test.YtecncappdnhbaaaAbN
set_option autoImplicit false
set_option linter.unusedVariables false
set_option linter.unusedSimpArgs false
set_option linter.unusedSectionVars false
namespace Go.Ab
open Go.RowKit Go.MapKept

theorem fold_bits (x : Nat → Nat) (i : Nat) : ∀ (l : List Edge) (s : Nat), (l.foldl (fun s e => if Region.binds .any e then s ||| 2 ^ e.on ||| x e.on else s) s).testBit i = true →
    s.testBit i = true ∨ ∃ e ∈ l, Region.binds .any e = true ∧ (e.on = i ∨ (x e.on).testBit i = true) := by
  intro l
  induction l with
  | nil => intro s h; exact .inl h
  | cons e l ih =>
    intro s h
    rw [List.foldl_cons] at h
    rcases ih _ h with h | ⟨e', h1, h2, h3⟩
    · split at h
      · rename_i hb
        rw [Nat.testBit_or, Nat.testBit_or, Nat.testBit_two_pow] at h
        simp only [Bool.or_eq_true, decide_eq_true_eq] at h
        rcases h with (h | h) | h
        · exact .inl h
        · exact .inr ⟨e, by simp, hb, .inl h⟩
        · exact .inr ⟨e, by simp, hb, .inr h⟩
      · exact .inl h
    · exact .inr ⟨e', by simp [h1], h2, h3⟩

theorem befs_spec : ∀ (l : List Oper) (acc bs : List Nat), befs l acc = some bs → ∃ new, bs = acc.reverse ++ new ∧ new.length = l.length ∧ ∀ k o b, l[k]? = some o → new[k]? = some b →
    (∀ e ∈ o.after.toList, Region.binds .any e = true → e.on < acc.length + k) ∧ ∀ i, b.testBit i = true → ∃ e ∈ o.after.toList, Region.binds .any e = true ∧ (e.on = i ∨ (bs.getD e.on 0).testBit i = true) := by
  intro l
  induction l with
  | nil => intro acc bs h; simp only [befs] at h; injection h with h; subst h; exact ⟨[], by simp, rfl, fun k o b h => by simp at h⟩
  | cons o l ih =>
    intro acc bs h
    simp only [befs] at h
    split at h
    · rename_i hall
      obtain ⟨new, hbs, hlen, hspec⟩ := ih _ _ h
      refine ⟨_ :: new, by rw [hbs, List.reverse_cons, List.append_assoc]; rfl, by simp [hlen], fun k o' b hk hb => ?_⟩
      cases k with
      | zero =>
        simp at hk hb
        subst hk; subst hb
        have hlt : ∀ e ∈ o.after.toList, Region.binds .any e = true → e.on < acc.length := fun e he hb => by
          have := List.all_eq_true.1 hall e he
          simpa [hb] using this
        refine ⟨fun e he hb => by have := hlt e he hb; omega, fun i hi => ?_⟩
        rcases fold_bits (fun m => acc.getD (acc.length - 1 - m) 0) i o.after.toList 0 (by simpa using hi) with h | ⟨e, h1, h2, h3⟩
        · simp at h
        · refine ⟨e, h1, h2, h3.imp id fun h => ?_⟩
          have hel := hlt e h1 h2
          have e1 : bs.getD e.on 0 = acc.getD (acc.length - 1 - e.on) 0 := by
            rw [hbs, List.getD_eq_getElem?_getD, List.getD_eq_getElem?_getD, List.getElem?_append_left (by simp; omega), List.reverse_cons, List.getElem?_append_left (by simpa using hel), List.getElem?_reverse hel]
          rw [e1]; exact h
      | succ k =>
        simp at hk hb
        obtain ⟨h1, h2⟩ := hspec k o' b hk hb
        exact ⟨fun e he hbb => by have := h1 e he hbb; simp at this; omega, h2⟩
    · cases h

theorem bits_closed {ops : Array Oper} {bs : List Nat} (hb : befs ops.toList [] = some bs) {E : Nat → Prop} (dc : ∀ (j : Nat) (o : Oper), ops[j]? = some o → E j → ∀ e ∈ o.after.toList, Region.binds .any e = true → E e.on) :
    ∀ (j : Nat) (o : Oper) (b : Nat), ops[j]? = some o → bs[j]? = some b → (∀ e ∈ o.after.toList, Region.binds .any e = true → E e.on) → ∀ i, b.testBit i = true → E i := by
  obtain ⟨new, hbs, hlen, hspec⟩ := befs_spec _ _ _ hb
  simp at hbs
  subst hbs
  intro j
  induction j using Nat.strongRecOn with
  | ind j ih =>
    intro o b ho hbj hE i hi
    have hlt := (Array.getElem?_eq_some_iff.1 ho).1
    obtain ⟨h1, h2⟩ := hspec j o b (by simpa using ho) hbj
    obtain ⟨e, he, hbi, h3⟩ := h2 i hi
    rcases h3 with h3 | h3
    · subst h3; exact hE e he hbi
    · have hel := h1 e he hbi
      simp at hel
      have hlt2 : e.on < ops.size := by omega
      have hbe : bs[e.on]? = some (bs.getD e.on 0) := by
        rw [List.getD_eq_getElem?_getD]
        have : e.on < bs.length := by rw [hlen]; simpa using hlt2
        rw [List.getElem?_eq_getElem this]; rfl
      exact ih e.on hel _ _ (Array.getElem?_eq_getElem hlt2) hbe (dc e.on _ (Array.getElem?_eq_getElem hlt2) (hE e he hbi)) i h3

theorem edges_back {ops : Array Oper} {bs : List Nat} (hb : befs ops.toList [] = some bs) {j : Nat} {o : Oper} (ho : ops[j]? = some o) : ∀ e ∈ o.after.toList, Region.binds .any e = true → e.on < j := by
  obtain ⟨new, hbs, hlen, hspec⟩ := befs_spec _ _ _ hb
  have hlt := (Array.getElem?_eq_some_iff.1 ho).1
  have hn : j < new.length := by rw [hlen]; simpa using hlt
  intro e he hbb
  have := (hspec j o new[j] (by simpa using ho) (List.getElem?_eq_getElem hn)).1 e he hbb
  simpa using this

/-! ### Rows -/
theorem zip3_get : ∀ (os : List Oper) (bs : List Nat) (i k : Nat), os.length = bs.length → ∀ x, (zip3 i os bs)[k]? = some x → x.1 = i + k ∧ os[k]? = some x.2.1 ∧ bs[k]? = some x.2.2 := by
  intro os
  induction os with
  | nil => intro bs i k h x hx; simp [zip3] at hx
  | cons o os ih =>
    intro bs i k h x hx
    cases bs with
    | nil => simp at h
    | cons b bs =>
      simp only [zip3] at hx
      cases k with
      | zero => simp at hx; subst hx; exact ⟨rfl, rfl, rfl⟩
      | succ k =>
        simp at hx
        obtain ⟨h1, h2, h3⟩ := ih bs (i + 1) k (by simpa using h) x hx
        exact ⟨by omega, by simpa using h2, by simpa using h3⟩
theorem zip3_len : ∀ (os : List Oper) (bs : List Nat) (i : Nat), os.length = bs.length → (zip3 i os bs).length = os.length := by
  intro os
  induction os with
  | nil => intro bs i h; simp [zip3]
  | cons o os ih =>
    intro bs i h
    cases bs with
    | nil => simp at h
    | cons b bs => simp [zip3, ih bs (i + 1) (by simpa using h)]

structure RowsOK (cx : Cx) (ops : Array Oper) (bs : List Nat) (rows : List Row) : Prop where
  len : rows.length = ops.size
  get : ∀ (j : Nat) (r : Row), rows[j]? = some r → r.j = j ∧ ops[j]? = some r.o ∧ r.k = kindOf cx r.o.op ∧ bs[j]? = some r.b ∧
    r.lo = loOf r.b ((louds rows).map (·.j)) 0 0 ∧ r.hi = hiOf r.j ((louds rows).map fun r => (r.j, r.b)) 0

theorem rowsOf_ok {cx : Cx} {ops : Array Oper} {rows : List Row} (h : rowsOf cx ops.toList = some rows) : ∃ bs, befs ops.toList [] = some bs ∧ RowsOK cx ops bs rows := by
  unfold rowsOf at h
  replace h := ob_eq h; obtain ⟨bs, hbs, h⟩ := h
  simp only at h
  injection h with h
  obtain ⟨new, hn, hlen, hspec⟩ := befs_spec _ _ _ hbs
  simp at hn; subst hn
  refine ⟨bs, hbs, ?_⟩
  have hl : ops.toList.length = bs.length := hlen.symm
  have hlouds : (louds rows).map (fun r => (r.j, r.b)) = ((zip3 0 ops.toList bs).filter fun x => isLoud cx x.2.1).map fun x => (x.1, x.2.2) := by
    rw [← h]
    unfold louds
    rw [List.filter_map, List.map_map]
    rfl
  have hlouds2 : (louds rows).map (·.j) = (((zip3 0 ops.toList bs).filter fun x => isLoud cx x.2.1).map fun x => (x.1, x.2.2)).map (·.1) := by
    rw [← hlouds, List.map_map]; rfl
  refine ⟨by rw [← h, List.length_map, zip3_len _ _ _ hl]; simp, fun j r hr => ?_⟩
  rw [hlouds, hlouds2]
  rw [← h, List.getElem?_map] at hr
  cases hx : (zip3 0 ops.toList bs)[j]? with
  | none => rw [hx] at hr; cases hr
  | some x =>
    rw [hx] at hr
    simp only [Option.map_some] at hr
    injection hr with hr; subst hr
    obtain ⟨h1, h2, h3⟩ := zip3_get _ _ _ _ hl x hx
    refine ⟨by show x.1 = j; omega, by simpa using h2, rfl, h3, rfl, rfl⟩

theorem louds_mem {rows : List Row} {r : Row} : r ∈ louds rows ↔ r ∈ rows ∧ isLoudR r = true := by simp [louds]

theorem planOf_mem {rows : List Row} {r : Row} : ∀ (ls : List Row) (s : Nat), r ∈ planOf rows ls s ↔ (r ∈ ls ∨ (r ∈ rows ∧ isLoudR r = false ∧ s ≤ r.lo ∧ r.lo ≤ s + ls.length)) := by
  intro ls
  induction ls with
  | nil =>
    intro s
    simp [planOf]
    intro _ _
    constructor
    · rintro rfl; omega
    · intro h; omega
  | cons l ls ih =>
    intro s
    simp only [planOf, List.mem_append, List.mem_cons, ih, List.mem_filter, Bool.and_eq_true, Bool.not_eq_true', beq_iff_eq, List.length_cons]
    constructor
    · rintro (⟨h1, h2, h3⟩ | rfl | h | ⟨h1, h2, h3, h4⟩)
      · exact .inr ⟨h1, h2, by omega, by omega⟩
      · exact .inl (.inl rfl)
      · exact .inl (.inr h)
      · exact .inr ⟨h1, h2, by omega, by omega⟩
    · rintro ((rfl | h) | ⟨h1, h2, h3, h4⟩)
      · exact .inr (.inl rfl)
      · exact .inr (.inr (.inl h))
      · by_cases h5 : r.lo = s
        · exact .inl ⟨h1, h2, h5⟩
        · exact .inr (.inr (.inr ⟨h1, h2, by omega, by omega⟩))

theorem planOf_louds {rows : List Row} : ∀ (ls : List Row) (s : Nat), (∀ l ∈ ls, isLoudR l = true) → (planOf rows ls s).filter isLoudR = ls := by
  intro ls
  induction ls with
  | nil =>
    intro s _
    simp only [planOf, List.filter_filter]
    rw [List.filter_eq_nil_iff]
    intro r _ h
    simp only [Bool.and_eq_true, Bool.not_eq_true'] at h
    rw [h.2.1] at h; exact absurd h.1 (by simp)
  | cons l ls ih =>
    intro s hl
    simp only [planOf, List.filter_append]
    have h0 : ((rows.filter fun r => !isLoudR r && r.lo == s).filter isLoudR) = [] := by
      rw [List.filter_filter, List.filter_eq_nil_iff]
      intro r _ h
      simp only [Bool.and_eq_true, Bool.not_eq_true'] at h
      rw [h.2.1] at h; exact absurd h.1 (by simp)
    rw [h0, List.nil_append, List.filter_cons, if_pos (hl l (by simp)), ih _ fun x hx => hl x (by simp [hx])]

theorem loOf_le (b S : Nat) : ∀ (ls : List Nat) (s r : Nat), r ≤ S → (∀ (k : Nat) (l : Nat), ls[k]? = some l → b.testBit l = true → s + k + 1 ≤ S) → loOf b ls s r ≤ S := by
  intro ls
  induction ls with
  | nil => intro s r h _; exact h
  | cons l ls ih =>
    intro s r h hk
    simp only [loOf]
    refine ih _ _ ?_ fun k l' hl hb => by have := hk (k + 1) l' (by simpa using hl) hb; omega
    split
    · rename_i hb; exact hk 0 l rfl hb
    · exact h

theorem le_hiOf (j : Nat) : ∀ (ls : List (Nat × Nat)) (s m : Nat), m ≤ ls.length → (∀ (k : Nat) (l : Nat × Nat), k < m → ls[k]? = some l → l.2.testBit j = false) → s + m ≤ hiOf j ls s := by
  intro ls
  induction ls with
  | nil => intro s m h _; simp at h; subst h; exact Nat.le_refl _
  | cons l ls ih =>
    intro s m h hk
    simp only [hiOf]
    cases m with
    | zero =>
      split
      · exact Nat.le_refl _
      · have := ih (s + 1) 0 (by simp) (fun k l' hh => by omega); omega
    | succ m =>
      rw [hk 0 l (by omega) rfl]
      simp only [Bool.false_eq_true, if_false]
      have := ih (s + 1) m (by simpa using h) fun k l' hh hl => hk (k + 1) l' (by omega) (by simpa using hl)
      omega

theorem lo_top (b : Nat) (ls : List Nat) : loOf b ls 0 0 ≤ ls.length := loOf_le b ls.length ls 0 0 (Nat.zero_le _) fun k l hl _ => by
  have := (List.getElem?_eq_some_iff.1 hl).1; omega

theorem chained_get : ∀ (l : List Row), chained l = true → ∀ (k : Nat) (a b : Row), l[k]? = some a → l[k + 1]? = some b → b.b.testBit a.j = true := by
  intro l
  induction l with
  | nil => intro _ k a b h; simp at h
  | cons x l ih =>
    intro hc k a b ha hb
    cases l with
    | nil => simp at hb
    | cons y l =>
      simp only [chained, Bool.and_eq_true] at hc
      cases k with
      | zero => simp at ha hb; subst ha; subst hb; exact hc.1
      | succ k => exact ih hc.2 k a b (by simpa using ha) (by simpa using hb)

theorem fitsAll_split {ops : List Oper} : ∀ (pre : List Row) (a : Row) (post : List Row), fitsAll ops (pre ++ a :: post) = true → (∀ b ∈ pre, fits ops b a = true) ∧ ∀ b ∈ post, fits ops a b = true := by
  intro pre
  induction pre with
  | nil =>
    intro a post h
    simp only [List.nil_append, fitsAll, Bool.and_eq_true, List.all_eq_true] at h
    exact ⟨fun b hb => (by cases hb), h.1⟩
  | cons x pre ih =>
    intro a post h
    simp only [List.cons_append, fitsAll, Bool.and_eq_true, List.all_eq_true] at h
    obtain ⟨h1, h2⟩ := ih a post h.2
    refine ⟨fun b hb => ?_, h2⟩
    rcases List.mem_cons.1 hb with rfl | hb
    · exact h.1 a (by simp)
    · exact h1 b hb

theorem fits_dst {ops : List Oper} {a b : Row} (h : fits ops a b = true) {t : Tmp} (ha : a.o.dst = some t) : b.o.dst ≠ some t ∧ (t ∈ looksAt ops b.o → b.b.testBit a.j = true) := by
  simp only [fits, ha, Bool.and_eq_true, bne_iff_ne, ne_eq, Bool.or_eq_true, Bool.not_eq_true'] at h
  obtain ⟨⟨h1, h2⟩, h3⟩ := h
  refine ⟨h1, fun ht => ?_⟩
  rcases h2 with h2 | h2
  · simp at h2; exact absurd ht h2
  · exact h2
theorem fits_look {ops : List Oper} {a b : Row} (h : fits ops a b = true) {t : Tmp} (hb : b.o.dst = some t) (ht : t ∈ looksAt ops a.o) : b.b.testBit a.j = true := by
  simp only [fits, hb, Bool.and_eq_true, Bool.or_eq_true, Bool.not_eq_true'] at h
  rcases h.2 with h2 | h2
  · simp at h2; exact absurd ht h2
  · exact h2

/-! ### The run of the plan -/
inductive News : Heap → Heap → Prop
  | refl (H : Heap) : News H H
  | cons {H K : Heap} (x : Blk) : News (H.new x) K → News H K

theorem News.next {H K : Heap} (h : News H K) : H.next ≤ K.next := by
  induction h with
  | refl => exact Nat.le_refl _
  | cons x _ ih => simp at ih; omega
theorem News.relW {sz : TypeId → Nat} {base : Nat → Prop} {w0 w : World} {μ : Inj} {H K : Heap} (h : News H K) (hw : RelW sz base w0 μ H w) : RelW sz base w0 μ K w := by
  induction h with
  | refl => exact hw
  | cons x _ ih => exact ih (hw.addDead x)

inductive SRun (cx : Cx) (call : Caller) (n : Nat) (all : List Oper) : List Row → Fr → Heap → List Rec → List Heap → Fr → Prop
  | nil (fr : Fr) (H : Heap) : SRun cx call n all [] fr H [] [H] fr
  | cons {r : Row} {rest : List Row} {fr fr1 fr' : Fr} {H H1 : Heap} {v : AV} {recs : List Rec} {Hs : List Heap} : aStep cx call all r.o fr.get H = some (v, H1) → H.next ≤ H1.next → fr.put n r.o.dst v = some fr1 →
      SRun cx call n all rest fr1 H1 recs Hs fr' → SRun cx call n all (r :: rest) fr H (⟨r, fr, v, H.next⟩ :: recs) (if isLoudR r then H :: Hs else Hs) fr'

section
variable {cx : Cx} {call : Caller} {n : Nat} {all : List Oper}

theorem drawRun_srun : ∀ (l : List Row) (fr : Fr) (H : Heap) (y : List Rec × List Heap × Fr), drawRun cx call n all l fr H = some y → SRun cx call n all l fr H y.1 y.2.1 y.2.2 := by
  intro l
  induction l with
  | nil => intro fr H y h; simp only [drawRun] at h; injection h with h; subst h; exact .nil fr H
  | cons r l ih =>
    intro fr H y h
    simp only [drawRun] at h
    replace h := ob_eq h; obtain ⟨⟨v, H1⟩, hx, h⟩ := h
    simp only [cb_eq, nble] at h
    split at h
    · rename_i hle
      replace h := ob_eq h; obtain ⟨fr1, hf, h⟩ := h
      replace h := ob_eq h; obtain ⟨z, hz, h⟩ := h
      injection h with h; subst h
      exact .cons hx (of_decide_eq_true hle) hf (ih _ _ _ hz)
    · cases h

variable {plan : List Row} {fr fr' : Fr} {H : Heap} {recs : List Rec} {Hs : List Heap}

theorem SRun.map (h : SRun cx call n all plan fr H recs Hs fr') : recs.map (·.r) = plan := by
  induction h with
  | nil => rfl
  | cons _ _ _ _ ih => simp [ih]

theorem SRun.nexts (h : SRun cx call n all plan fr H recs Hs fr') : (∀ K ∈ Hs, H.next ≤ K.next) ∧ (∀ c ∈ recs, H.next ≤ c.id) := by
  induction h with
  | nil => exact ⟨fun K hK => by simp at hK; rw [hK]; exact Nat.le_refl _, fun c hc => by cases hc⟩
  | cons _ h1 _ _ ih =>
    rename_i r rest fr fr1 fr' H H1 v recs Hs _ _ _
    refine ⟨fun K hK => ?_, fun c hc => ?_⟩
    · split at hK
      · rcases List.mem_cons.1 hK with rfl | hK
        · exact Nat.le_refl _
        · exact Nat.le_trans h1 (ih.1 K hK)
      · exact Nat.le_trans h1 (ih.1 K hK)
    · rcases List.mem_cons.1 hc with rfl | hc
      · exact Nat.le_refl _
      · exact Nat.le_trans h1 (ih.2 c hc)

theorem put_get {fr fr1 : Fr} {dst : Option Tmp} {v : AV} (h : fr.put n dst v = some fr1) (t : Tmp) : (dst = some t ∧ fr1.get t = v) ∨ (dst ≠ some t ∧ fr1.get t = fr.get t) := by
  unfold Fr.put at h
  cases dst with
  | none => simp only at h; injection h with h; subst h; exact .inr ⟨by simp, rfl⟩
  | some d =>
    simp only [cb_eq] at h
    split at h
    · injection h with h; subst h
      by_cases htd : t = d
      · subst htd; exact .inl ⟨rfl, by show T.get .undef (T.set .undef fr t v) t = v; rw [T.get_set, if_pos rfl]⟩
      · refine .inr ⟨fun e => htd (by injection e with e; exact e.symm), ?_⟩
        show T.get .undef (T.set .undef fr d v) t = _
        rw [T.get_set, if_neg htd]; rfl
    · cases h
theorem put_lt {fr fr1 : Fr} {d : Tmp} {v : AV} (h : fr.put n (some d) v = some fr1) : d < n := by
  unfold Fr.put at h
  simp only [cb_eq, nble] at h
  split at h
  · rename_i hh; exact of_decide_eq_true hh
  · cases h

/-- A slot behind the run is what stood ahead of it, or what one of the records has left. -/
theorem SRun.frame (h : SRun cx call n all plan fr H recs Hs fr') (t : Tmp) : (fr'.get t = fr.get t ∧ ∀ c ∈ recs, c.r.o.dst ≠ some t) ∨ ∃ c ∈ recs, c.r.o.dst = some t ∧ fr'.get t = c.v := by
  induction h with
  | nil => exact .inl ⟨rfl, fun c hc => by cases hc⟩
  | cons _ _ hp _ ih =>
    rcases ih with ⟨h1, h2⟩ | ⟨c, h1, h2, h3⟩
    · rcases put_get hp t with ⟨h4, h5⟩ | ⟨h4, h5⟩
      · exact .inr ⟨_, List.mem_cons_self, h4, h1.trans h5⟩
      · refine .inl ⟨h1.trans h5, fun c hc => ?_⟩
        rcases List.mem_cons.1 hc with rfl | hc
        · exact h4
        · exact h2 c hc
    · exact .inr ⟨c, by simp [h1], h2, h3⟩

theorem SRun.at (h : SRun cx call n all plan fr H recs Hs fr') (t : Tmp) : ∀ (pre : List Rec) (c : Rec) (post : List Rec), recs = pre ++ c :: post →
    (c.g.get t = fr.get t ∧ ∀ c' ∈ pre, c'.r.o.dst ≠ some t) ∨ ∃ c' ∈ pre, c'.r.o.dst = some t ∧ c.g.get t = c'.v := by
  induction h with
  | nil => intro pre c post h; simp at h
  | cons _ _ hp _ ih =>
    intro pre c post h
    cases pre with
    | nil => simp at h; obtain ⟨rfl, _⟩ := h; exact .inl ⟨rfl, fun c hc => by cases hc⟩
    | cons x pre =>
      simp at h
      obtain ⟨rfl, h⟩ := h
      rcases ih pre c post h with ⟨h1, h2⟩ | ⟨c', h1, h2, h3⟩
      · rcases put_get hp t with ⟨h4, h5⟩ | ⟨h4, h5⟩
        · exact .inr ⟨_, List.mem_cons_self, h4, h1.trans h5⟩
        · refine .inl ⟨h1.trans h5, fun c hc => ?_⟩
          rcases List.mem_cons.1 hc with rfl | hc
          · exact h4
          · exact h2 c hc
      · exact .inr ⟨c', by simp [h1], h2, h3⟩

theorem SRun.lt (h : SRun cx call n all plan fr H recs Hs fr') : ∀ c ∈ recs, ∀ d, c.r.o.dst = some d → d < n := by
  induction h with
  | nil => intro c hc; cases hc
  | cons _ _ hp _ ih =>
    intro c hc d hd
    rcases List.mem_cons.1 hc with rfl | hc
    · simp only at hd; rw [hd] at hp; exact put_lt hp
    · exact ih c hc d hd

/-- A step that isn't loud. -/
theorem step_calm {o : Oper} {g : Env} {H H1 : Heap} {v : AV} (h : aStep cx call all o g H = some (v, H1)) (hk : kindOf cx o.op ≠ .loud) :
    (aWanted all g o = false ∧ v = .undef ∧ H1 = H) ∨
    (aWanted all g o = true ∧ kindOf cx o.op = .quiet ∧ aQuiet cx o.op g H = some v ∧ H1 = H) ∨
    (aWanted all g o = true ∧ kindOf cx o.op = .made ∧ ∃ m, aMade cx o.op g = some m ∧ v = m.1 H.next ∧ H1 = H.new m.2) := by
  obtain ⟨-, h⟩ := aStep_eq h
  unfold aStep0 at h
  rw [cb_eq] at h
  split at h
  · rename_i hw
    rw [aOp_eq] at h
    unfold aOpK at h
    split at h
    · rename_i hm
      replace h := ob_eq h; obtain ⟨m, hm', h⟩ := h
      injection h with h; injection h with h1 h2
      exact .inr (.inr ⟨hw, hm, m, hm', h1.symm, h2.symm⟩)
    · rename_i hq
      replace h := ob_eq h; obtain ⟨u, hu, h⟩ := h
      injection h with h; injection h with h1 h2
      subst h1
      exact .inr (.inl ⟨hw, hq, hu, h2.symm⟩)
    · rename_i hl; exact absurd hl hk
  · rename_i hw
    injection h with h; injection h with h1 h2
    exact .inl ⟨by simpa using hw, h1.symm, h2.symm⟩

theorem loudR_iff {r : Row} : isLoudR r = true ↔ r.k = .loud := by
  unfold isLoudR
  split
  · rename_i h; simp [h]
  · rename_i h; simp; exact h

def Rec.madeW (all : List Oper) (c : Rec) : Prop := c.r.k = .made ∧ aWanted all c.g.get c.r.o = true

theorem SRun.head (h : SRun cx call n all plan fr H recs Hs fr') (hk : ∀ r ∈ plan, r.k = kindOf cx r.o.op) : ∃ K, Hs[0]? = some K ∧ News H K := by
  induction h with
  | nil => exact ⟨_, rfl, .refl _⟩
  | cons hs _ _ _ ih =>
    rename_i r rest fr fr1 fr' H H1 v recs Hs _ _ _
    split
    · exact ⟨_, rfl, .refl _⟩
    · rename_i hl
      obtain ⟨K, h1, h2⟩ := ih fun r hr => hk r (by simp [hr])
      refine ⟨K, h1, ?_⟩
      have hkr := hk r (by simp)
      have hnl : kindOf cx r.o.op ≠ .loud := fun e => hl (loudR_iff.2 (hkr.trans e))
      rcases step_calm hs hnl with ⟨_, _, rfl⟩ | ⟨_, _, _, rfl⟩ | ⟨_, _, m, _, _, rfl⟩
      · exact h2
      · exact h2
      · exact .cons _ h2

theorem SRun.made (h : SRun cx call n all plan fr H recs Hs fr') (hk : ∀ r ∈ plan, r.k = kindOf cx r.o.op) : ∀ c ∈ recs, c.madeW all → ∃ m, aMade cx c.r.o.op c.g.get = some m ∧ c.v = m.1 c.id := by
  induction h with
  | nil => intro c hc; cases hc
  | cons hs _ _ _ ih =>
    intro c hc hm
    rcases List.mem_cons.1 hc with rfl | hc
    · have hkr := hk _ (List.mem_cons_self)
      have hnl : kindOf cx _ ≠ .loud := fun e => by have := hkr.trans e; rw [hm.1] at this; cases this
      rcases step_calm hs hnl with ⟨h1, _⟩ | ⟨_, h1, _⟩ | ⟨_, _, m, h1, h2, _⟩
      · rw [hm.2] at h1; cases h1
      · rw [← hkr, hm.1] at h1; cases h1
      · exact ⟨m, h1, h2⟩
    · exact ih (fun r hr => hk r (by simp [hr])) c hc hm

theorem SRun.known (h : SRun cx call n all plan fr H recs Hs fr') : ∀ c ∈ recs, gknown all c.g.get c.r.o = true := by
  induction h with
  | nil => intro c hc; cases hc
  | cons hs _ _ _ ih =>
    intro c hc
    rcases List.mem_cons.1 hc with rfl | hc
    · exact (aStep_eq hs).1
    · exact ih c hc

theorem SRun.unwanted (h : SRun cx call n all plan fr H recs Hs fr') : ∀ c ∈ recs, aWanted all c.g.get c.r.o = false → c.v = .undef := by
  induction h with
  | nil => intro c hc; cases hc
  | cons hs _ _ _ ih =>
    intro c hc hm
    rcases List.mem_cons.1 hc with rfl | hc
    · simp only at hm
      obtain ⟨-, hs⟩ := aStep_eq hs
      unfold aStep0 at hs
      rw [hm, cb_false] at hs
      injection hs with hs; injection hs with h1 h2; exact h1.symm
    · exact ih c hc hm

theorem SRun.quiets (h : SRun cx call n all plan fr H recs Hs fr') (hk : ∀ r ∈ plan, r.k = kindOf cx r.o.op) (hq : ∀ r ∈ plan, r.k = .quiet) : Hs = [H] ∧ ∀ c ∈ recs, aWanted all c.g.get c.r.o = true → aQuiet cx c.r.o.op c.g.get H = some c.v := by
  induction h with
  | nil => exact ⟨rfl, fun c hc => by cases hc⟩
  | cons hs _ _ _ ih =>
    rename_i r rest fr fr1 fr' H H1 v recs Hs _ _ _
    have hqr := hq r (by simp)
    have hkr := hk r (by simp)
    have hnl : kindOf cx r.o.op ≠ .loud := fun e => by rw [← hkr, hqr] at e; cases e
    have hl : ¬ isLoudR r = true := fun e => hnl (hkr.symm.trans (loudR_iff.1 e))
    rw [if_neg hl]
    obtain ⟨h1, h2⟩ := ih (fun r hr => hk r (by simp [hr])) (fun r hr => hq r (by simp [hr]))
    rcases step_calm hs hnl with ⟨hw, _, rfl⟩ | ⟨hw, _, hqq, rfl⟩ | ⟨_, hm, _⟩
    · refine ⟨h1, fun c hc hw' => ?_⟩
      rcases List.mem_cons.1 hc with rfl | hc
      · simp only at hw'; rw [hw] at hw'; cases hw'
      · exact h2 c hc hw'
    · refine ⟨h1, fun c hc hw' => ?_⟩
      rcases List.mem_cons.1 hc with rfl | hc
      · exact hqq
      · exact h2 c hc hw'
    · rw [← hkr, hqr] at hm; cases hm

theorem SRun.loud (h : SRun cx call n all plan fr H recs Hs fr') (hk : ∀ r ∈ plan, r.k = kindOf cx r.o.op) : ∀ (k : Nat) (c : Rec), (recs.filter fun c => isLoudR c.r)[k]? = some c →
    ∃ Hk Ha Hk1, Hs[k]? = some Hk ∧ aStep cx call all c.r.o c.g.get Hk = some (c.v, Ha) ∧ Hs[k + 1]? = some Hk1 ∧ News Ha Hk1 ∧ ∀ c' ∈ recs, c'.madeW all → c'.id < Hk.next ∨ Ha.next ≤ c'.id := by
  induction h with
  | nil => intro k c hc; simp at hc
  | cons hs hle _ hrest ih =>
    rename_i r rest fr fr1 fr' H H1 v recs Hs _
    intro k c hc
    have hk' : ∀ r ∈ rest, r.k = kindOf cx r.o.op := fun r hr => hk r (by simp [hr])
    have hkr := hk r (by simp)
    by_cases hl : isLoudR r = true
    · rw [if_pos hl]
      rw [List.filter_cons, if_pos (by exact hl)] at hc
      cases k with
      | zero =>
        simp at hc; subst hc
        obtain ⟨K, h1, h2⟩ := hrest.head hk'
        refine ⟨H, H1, K, rfl, hs, by simpa using h1, h2, fun c' hc' hm => ?_⟩
        rcases List.mem_cons.1 hc' with rfl | hc'
        · rw [loudR_iff] at hl; have := hm.1; simp only at this; rw [hl] at this; cases this
        · exact .inr (hrest.nexts.2 c' hc')
      | succ k =>
        obtain ⟨Hk, Ha, Hk1, h1, h2, h3, h4, h5⟩ := ih hk' k c (by simpa using hc)
        refine ⟨Hk, Ha, Hk1, by simpa using h1, h2, by simpa using h3, h4, fun c' hc' hm => ?_⟩
        rcases List.mem_cons.1 hc' with rfl | hc'
        · rw [loudR_iff] at hl; have := hm.1; simp only at this; rw [hl] at this; cases this
        · exact h5 c' hc' hm
    · rw [if_neg hl]
      rw [List.filter_cons, if_neg (by exact hl)] at hc
      obtain ⟨Hk, Ha, Hk1, h1, h2, h3, h4, h5⟩ := ih hk' k c hc
      refine ⟨Hk, Ha, Hk1, h1, h2, h3, h4, fun c' hc' hm => ?_⟩
      rcases List.mem_cons.1 hc' with rfl | hc'
      · left
        have hnl : kindOf cx r.o.op ≠ .loud := fun e => hl (loudR_iff.2 (hkr.trans e))
        have hn := hrest.nexts.1 Hk (List.mem_of_getElem? h1)
        rcases step_calm hs hnl with ⟨hw, _⟩ | ⟨_, hq, _⟩ | ⟨_, _, m, _, _, rfl⟩
        · have := hm.2; simp only at this; rw [hw] at this; cases this
        · have := hm.1; simp only at this; rw [hkr, hq] at this; cases this
        · simp at hn ⊢; omega
      · exact h5 c' hc' hm

theorem SRun.heaps (h : SRun cx call n all plan fr H recs Hs fr') : Hs.length = (plan.filter isLoudR).length + 1 := by
  induction h with
  | nil => rfl
  | cons _ _ _ _ ih =>
    rename_i r rest fr fr1 fr' H H1 v recs Hs _ _ _ _
    by_cases hl : isLoudR r = true
    · rw [if_pos hl, List.filter_cons, if_pos hl]; simp [ih]
    · rw [if_neg hl, List.filter_cons, if_neg hl]; exact ih

theorem SRun.idsUp (h : SRun cx call n all plan fr H recs Hs fr') (hk : ∀ r ∈ plan, r.k = kindOf cx r.o.op) : ∀ (pre : List Rec) (c : Rec) (post : List Rec), recs = pre ++ c :: post → c.madeW all → ∀ c' ∈ post, c.id < c'.id := by
  induction h with
  | nil => intro pre c post h; simp at h
  | cons hs hle _ hrest ih =>
    intro pre c post h hm c' hc'
    cases pre with
    | nil =>
      simp at h
      obtain ⟨rfl, rfl⟩ := h
      have hkr := hk _ (List.mem_cons_self)
      have hn := hrest.nexts.2 c' hc'
      have hnl : kindOf cx _ ≠ .loud := fun e => by have := hkr.trans e; rw [hm.1] at this; cases this
      rcases step_calm hs hnl with ⟨h1, _⟩ | ⟨_, h1, _⟩ | ⟨_, _, m, _, _, rfl⟩
      · rw [hm.2] at h1; cases h1
      · rw [← hkr, hm.1] at h1; cases h1
      · simp at hn ⊢; omega
    | cons x pre =>
      simp at h
      exact ih (fun r hr => hk r (by simp [hr])) pre c post h.2 hm c' hc'
end
end Go.Ab
