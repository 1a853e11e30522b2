/- A region that draws its order: every order comes to what the plan's run says. -/
import Derived.Test.YtecncappdnhbaaaAbO
set_option autoImplicit false
set_option linter.unusedVariables false
set_option linter.unusedSimpArgs false
set_option linter.unusedSectionVars false
namespace Go.Ab
open Go.RowKit Go.MapKept

theorem lset {listed : Array Bool} {i j : Nat} (hi : i < listed.size) : (listed.setIfInBounds i true).getD j false = if i = j then true else listed.getD j false := by
  rw [Array.getD_eq_getD_getElem?, Array.getElem?_setIfInBounds]
  by_cases h : i = j
  · subst h; simp [hi]
  · rw [if_neg h, if_neg h, Array.getD_eq_getD_getElem?]

/-- What the plan and its run have shown. -/
structure Drawn (cx : Cx) (call : Caller) (nn : Nat) (ops : Array Oper) (fr0 : Fr) (H0 : Heap) (bs : List Nat) (rows plan : List Row) (recs : List Rec) (Hs : List Heap) (fr1 : Fr) : Prop where
  hb : befs ops.toList [] = some bs
  rok : RowsOK cx ops bs rows
  hp : plan = planOf rows (louds rows) 0
  run : SRun cx call nn ops.toList plan fr0 H0 recs Hs fr1
  ch : chained (louds rows) = true
  ft : fitsAll ops.toList plan = true
  ok : ∀ c ∈ recs, aWanted ops.toList c.g.get c.r.o = true → ∀ (s : Nat) (K : Heap), c.r.lo ≤ s → s ≤ c.r.hi → Hs[s]? = some K →
    (c.r.k = .quiet → aQuiet cx c.r.o.op c.g.get K = some c.v) ∧ (c.r.k = .made → ∃ m, aMade cx c.r.o.op c.g.get = some m ∧ c.id < K.next ∧ K.get c.id = m.2)

structure Inv (cx : Cx) (base : Nat → Prop) (w0 : World) (nn : Nat) (ops : Array Oper) (fr0 : Fr) (H0 : Heap) (μ0 : Inj) (ds : List Deferred) (rows : List Row) (recs : List Rec) (Hs : List Heap)
    (listed : Array Bool) (s : Nat) (μ : Inj) (a : Act) (w : World) : Prop where
  size : listed.size = ops.size
  dc : ∀ (j : Nat) (o : Oper), ops[j]? = some o → listed.getD j false = true → ∀ e ∈ o.after.toList, Region.binds .any e = true → listed.getD e.on false = true
  st : s ≤ (louds rows).length ∧ ∀ (k : Nat) (r : Row), (louds rows)[k]? = some r → (listed.getD r.j false = true ↔ k < s)
  heap : ∃ K, Hs[s]? = some K ∧ RelW (szOf cx) base w0 μ K w
  ids : ∀ c ∈ recs, c.madeW ops.toList → listed.getD c.r.j false = false → μ c.id = none
  frame : ∀ t, (∃ c ∈ recs, c.r.o.dst = some t ∧ listed.getD c.r.j false = true ∧ RelV μ c.v (a.tmps.getD t undef)) ∨
    ((∀ c ∈ recs, c.r.o.dst = some t → listed.getD c.r.j false = false) ∧ RelV μ (fr0.get t) (a.tmps.getD t undef))
  tsize : a.tmps.size = nn
  defers : a.defers = ds
  grow : Grow H0.next μ0 μ

section
variable {P : Program} {cx : Cx} (hcx : CxOK P cx) {base : Nat → Prop} {w0 : World} {call : Caller} (hcall : CallerOK P cx base w0 call)
  {nn : Nat} {ops : Array Oper} {fr0 fr1 : Fr} {H0 : Heap} {bs : List Nat} {rows plan : List Row} {recs : List Rec} {Hs : List Heap} (D : Drawn cx call nn ops fr0 H0 bs rows plan recs Hs fr1)
  {μ0 : Inj} {ds : List Deferred}
include D

theorem Drawn.row {c : Rec} (hc : c ∈ recs) : ∃ j, rows[j]? = some c.r ∧ c.r.j = j ∧ ops[j]? = some c.r.o ∧ c.r.k = kindOf cx c.r.o.op ∧ bs[j]? = some c.r.b ∧
    c.r.lo = loOf c.r.b ((louds rows).map (·.j)) 0 0 ∧ c.r.hi = hiOf c.r.j ((louds rows).map fun r => (r.j, r.b)) 0 := by
  have h1 : c.r ∈ plan := by rw [← D.run.map]; exact List.mem_map_of_mem hc
  rw [D.hp, planOf_mem] at h1
  have h2 : c.r ∈ rows := by
    rcases h1 with h | h
    · exact (louds_mem.1 h).1
    · exact h.1
  obtain ⟨j, hj⟩ := List.getElem?_of_mem h2
  exact ⟨j, hj, D.rok.get j c.r hj⟩

theorem Drawn.kinds : ∀ r ∈ plan, r.k = kindOf cx r.o.op := by
  intro r hr
  rw [D.hp, planOf_mem] at hr
  have h2 : r ∈ rows := by
    rcases hr with h | h
    · exact (louds_mem.1 h).1
    · exact h.1
  obtain ⟨j, hj⟩ := List.getElem?_of_mem h2
  exact (D.rok.get j r hj).2.2.1

theorem Drawn.sameRow {r r' : Row} {j j' : Nat} (h : rows[j]? = some r) (h' : rows[j']? = some r') (e : r.j = r'.j) : r = r' := by
  have h1 := (D.rok.get j r h).1
  have h2 := (D.rok.get j' r' h').1
  have : j = j' := by omega
  subst this
  rw [h] at h'; injection h'

/-- of two records that write one slot: one. -/
theorem Drawn.one {c c' : Rec} {t : Tmp} (hc : c ∈ recs) (hc' : c' ∈ recs) (h : c.r.o.dst = some t) (h' : c'.r.o.dst = some t) : c = c' := by
  obtain ⟨pre, post, hs⟩ := List.append_of_mem hc
  have hm := D.run.map
  rw [hs, List.map_append, List.map_cons] at hm
  have hf := D.ft
  rw [← hm] at hf
  obtain ⟨f1, f2⟩ := fitsAll_split _ _ _ hf
  rw [hs] at hc'
  simp only [List.mem_append, List.mem_cons] at hc'
  rcases hc' with h3 | h3 | h3
  · exact absurd h (fits_dst (f1 c'.r (List.mem_map_of_mem h3)) h').1
  · exact h3.symm
  · exact absurd h' (fits_dst (f2 c'.r (List.mem_map_of_mem h3)) h).1

variable {listed : Array Bool} {s : Nat} {μ : Inj} {a : Act} {w : World} (I : Inv cx base w0 nn ops fr0 H0 μ0 ds rows recs Hs listed s μ a w)
include I

theorem Inv.closed {c : Rec} (hc : c ∈ recs) (he : ∀ e ∈ c.r.o.after.toList, Region.binds .any e = true → listed.getD e.on false = true) (i : Nat) (hb : c.r.b.testBit i = true) : listed.getD i false = true := by
  obtain ⟨j, _, hj, ho, _, hbs, _⟩ := D.row hc
  exact bits_closed D.hb (E := fun i => listed.getD i false = true) I.dc j c.r.o c.r.b ho hbs he i hb
theorem Inv.closed' {c : Rec} (hc : c ∈ recs) (hl : listed.getD c.r.j false = true) (i : Nat) (hb : c.r.b.testBit i = true) : listed.getD i false = true := by
  obtain ⟨j, _, hj, ho, _, hbs, _⟩ := D.row hc
  refine Inv.closed D I hc (fun e he hbb => ?_) i hb
  exact I.dc j c.r.o ho (by rw [← hj]; exact hl) e he hbb

/-- What an operation that is ready looks at, is there. -/
theorem Inv.looks {c : Rec} (hc : c ∈ recs) (hl : listed.getD c.r.j false = false) (he : ∀ e ∈ c.r.o.after.toList, Region.binds .any e = true → listed.getD e.on false = true)
    {t : Tmp} (ht : t ∈ looksAt ops.toList c.r.o) : RelV μ (c.g.get t) (a.tmps.getD t undef) := by
  obtain ⟨pre, post, hs⟩ := List.append_of_mem hc
  have hm := D.run.map
  rw [hs, List.map_append, List.map_cons] at hm
  have hf := D.ft
  rw [← hm] at hf
  obtain ⟨f1, f2⟩ := fitsAll_split _ _ _ hf
  rcases I.frame t with ⟨c', h1, h2, h3, h4⟩ | ⟨h1, h2⟩
  · have h1' := h1
    rw [hs] at h1'
    simp only [List.mem_append, List.mem_cons] at h1'
    rcases h1' with h5 | h5 | h5
    · rcases D.run.at t pre c post hs with ⟨_, h6⟩ | ⟨c'', h6, h7, h8⟩
      · exact absurd h2 (h6 c' h5)
      · have : c'' = c' := D.one (by rw [hs]; simp [h6]) h1 h7 h2
        rw [h8, this]; exact h4
    · subst h5; rw [hl] at h3; cases h3
    · have hb := fits_look (f2 c'.r (List.mem_map_of_mem h5)) h2 ht
      have := Inv.closed' D I h1 h3 _ hb
      rw [hl] at this; cases this
  · rcases D.run.at t pre c post hs with ⟨h6, _⟩ | ⟨c'', h6, h7, h8⟩
    · rw [h6]; exact h2
    · have hc'' : c'' ∈ recs := by rw [hs]; simp [h6]
      have hb := (fits_dst (f1 c''.r (List.mem_map_of_mem h6)) h7).2 ht
      have := Inv.closed D I hc he _ hb
      rw [h1 c'' hc'' h7] at this; cases this

/-- A frame that goes with the act, and agrees with the record's on what the operation looks at. -/
theorem Inv.env {c : Rec} (hc : c ∈ recs) (hl : listed.getD c.r.j false = false) (he : ∀ e ∈ c.r.o.after.toList, Region.binds .any e = true → listed.getD e.on false = true) :
    ∃ g : Env, RelF μ g a.tmps ∧ (∀ x ∈ c.r.o.op.operands, ev g x = ev c.g.get x) ∧ aWanted ops.toList g c.r.o = aWanted ops.toList c.g.get c.r.o ∧ gknown ops.toList g c.r.o = true := by
  have hex : ∀ t, ∃ v, RelV μ v (a.tmps.getD t undef) ∧ (t ∈ looksAt ops.toList c.r.o → v = c.g.get t) := by
    intro t
    by_cases ht : t ∈ looksAt ops.toList c.r.o
    · exact ⟨_, Inv.looks D I hc hl he ht, fun _ => rfl⟩
    · rcases I.frame t with ⟨c', _, _, _, h⟩ | ⟨_, h⟩
      · exact ⟨_, h, fun h => absurd h ht⟩
      · exact ⟨_, h, fun h => absurd h ht⟩
  have hgd : ∀ q d, c.r.o.guard = some q → (listAt ops.toList q.1).ob (·.dst) = some d → Classical.choose (hex d) = c.g.get d := fun q d hq hd => by
    refine (Classical.choose_spec (hex d)).2 ?_
    unfold looksAt
    rw [List.mem_append, hq]
    obtain ⟨q1, q2⟩ := q
    simp only at hd
    right
    simp only [hd]
    simp
  refine ⟨fun t => Classical.choose (hex t), fun t => (Classical.choose_spec (hex t)).1, fun x hx => ev_congr fun t e => ?_, aWanted_congr hgd, (gknown_congr hgd).trans (D.run.known c hc)⟩
  refine (Classical.choose_spec (hex t)).2 ?_
  subst e
  unfold looksAt
  rw [List.mem_append]
  exact .inl (List.mem_filterMap.2 ⟨.tmp t, by simpa using hx, rfl⟩)

theorem Inv.stage {c : Rec} (hc : c ∈ recs) (hl : listed.getD c.r.j false = false) (he : ∀ e ∈ c.r.o.after.toList, Region.binds .any e = true → listed.getD e.on false = true) : c.r.lo ≤ s ∧ s ≤ c.r.hi := by
  obtain ⟨j, hrj, hj, ho, hk, hbs, hlo, hhi⟩ := D.row hc
  constructor
  · rw [hlo]
    refine loOf_le _ _ _ _ _ (Nat.zero_le _) fun k l hkl hb => ?_
    rw [List.getElem?_map] at hkl
    cases hx : (louds rows)[k]? with
    | none => rw [hx] at hkl; cases hkl
    | some r =>
      rw [hx] at hkl
      simp only [Option.map_some] at hkl
      injection hkl with hkl; subst hkl
      have := Inv.closed D I hc he _ hb
      have := (I.st.2 k r hx).1 this
      omega
  · rw [hhi]
    have := le_hiOf c.r.j ((louds rows).map fun r => (r.j, r.b)) 0 s (by rw [List.length_map]; exact I.st.1) fun k l hks hkl => by
      rw [List.getElem?_map] at hkl
      cases hx : (louds rows)[k]? with
      | none => rw [hx] at hkl; cases hkl
      | some r =>
        rw [hx] at hkl
        simp only [Option.map_some] at hkl
        injection hkl with hkl; subst hkl
        simp only
        cases hb : r.b.testBit c.r.j with
        | false => rfl
        | true =>
          exfalso
          have hrl := (I.st.2 k r hx).2 hks
          have hrr : r ∈ rows := (louds_mem.1 (List.mem_of_getElem? hx)).1
          obtain ⟨j', hj'⟩ := List.getElem?_of_mem hrr
          obtain ⟨g1, g2, _, g4, _⟩ := D.rok.get j' r hj'
          have := bits_closed D.hb (E := fun i => listed.getD i false = true) I.dc j' r.o r.b g2 g4 (fun e hee hbb => I.dc j' r.o g2 (by rw [← g1]; exact hrl) e hee hbb) c.r.j hb
          rw [hl] at this; cases this
    omega

/-- The next state. -/
theorem Inv.step {c : Rec} (hc : c ∈ recs) (hl : listed.getD c.r.j false = false) (he : ∀ e ∈ c.r.o.after.toList, Region.binds .any e = true → listed.getD e.on false = true)
    {s' : Nat} {μ' : Inj} {K' : Heap} {w' : World} {Z : Value} (hext : Ext μ μ') (hK : Hs[s']? = some K') (hw' : RelW (szOf cx) base w0 μ' K' w')
    (hst : s' ≤ (louds rows).length ∧ ∀ (k : Nat) (r : Row), (louds rows)[k]? = some r → ((listed.setIfInBounds c.r.j true).getD r.j false = true ↔ k < s'))
    (hids : ∀ c' ∈ recs, c'.madeW ops.toList → (listed.setIfInBounds c.r.j true).getD c'.r.j false = false → μ' c'.id = none) (hZ : RelV μ' c.v Z) (hg : Grow H0.next μ0 μ') :
    Inv cx base w0 nn ops fr0 H0 μ0 ds rows recs Hs (listed.setIfInBounds c.r.j true) s' μ' (a.put c.r.o.dst Z) w' := by
  obtain ⟨j, hrj, hj, ho, hk, hbs, hlo, hhi⟩ := D.row hc
  have hlt : c.r.j < listed.size := by rw [I.size, hj]; exact (Array.getElem?_eq_some_iff.1 ho).1
  refine ⟨by simpa using I.size, fun j' o' ho' hl' e he' hb' => ?_, hst, ⟨K', hK, hw'⟩, hids, fun t => ?_, by rw [put_size]; exact I.tsize, by rw [put_defers]; exact I.defers, hg⟩
  · rw [lset hlt] at hl' ⊢
    split
    · rfl
    · split at hl'
      · rename_i h
        subst h
        rw [hj, ho] at ho'; injection ho' with ho'; subst ho'
        exact he e he' hb'
      · exact I.dc j' o' ho' hl' e he' hb'
  · by_cases ht : c.r.o.dst = some t
    · have htn : t < a.tmps.size := by rw [I.tsize]; exact D.run.lt c hc t ht
      refine .inl ⟨c, hc, ht, by rw [lset hlt, if_pos rfl], ?_⟩
      rw [ht]
      simp only [Act.put, Array.getD_eq_getD_getElem?, Array.getElem?_setIfInBounds, if_pos, htn]
      exact hZ
    · have e1 : (a.put c.r.o.dst Z).tmps.getD t undef = a.tmps.getD t undef := by
        cases hd : c.r.o.dst with
        | none => rfl
        | some d =>
          have : d ≠ t := fun e => ht (by rw [hd, e])
          simp only [Act.put, Array.getD_eq_getD_getElem?, Array.getElem?_setIfInBounds, if_neg this]
      rw [e1]
      rcases I.frame t with ⟨c', h1, h2, h3, h4⟩ | ⟨h1, h2⟩
      · exact .inl ⟨c', h1, h2, by rw [lset hlt]; split <;> first | rfl | exact h3, h4.mono hext⟩
      · refine .inr ⟨fun c' hc' hd' => ?_, h2.mono hext⟩
        rw [lset hlt]
        split
        · rename_i e
          exfalso
          obtain ⟨j2, hr2, _⟩ := D.row hc'
          have := D.sameRow hrj hr2 e
          rw [← this] at hd'
          exact ht hd'
        · exact h1 c' hc' hd'

theorem Inv.calm {c : Rec} (hc : c ∈ recs) (hnl : isLoudR c.r = false) : s ≤ (louds rows).length ∧ ∀ (k : Nat) (r : Row), (louds rows)[k]? = some r → ((listed.setIfInBounds c.r.j true).getD r.j false = true ↔ k < s) := by
  refine ⟨I.st.1, fun k r hk => ?_⟩
  obtain ⟨j, hrj, hj, ho, _⟩ := D.row hc
  have hlt : c.r.j < listed.size := by rw [I.size, hj]; exact (Array.getElem?_eq_some_iff.1 ho).1
  have hr := louds_mem.1 (List.mem_of_getElem? hk)
  obtain ⟨j', hj'⟩ := List.getElem?_of_mem hr.1
  have hne : c.r.j ≠ r.j := fun e => by
    have := D.sameRow hrj hj' e
    rw [this, hr.2] at hnl; cases hnl
  rw [lset hlt, if_neg hne]
  exact I.st.2 k r hk

theorem Inv.idsOf {c : Rec} (hc : c ∈ recs) {c' : Rec} (hc' : c' ∈ recs) (h : (listed.setIfInBounds c.r.j true).getD c'.r.j false = false) : c.r.j ≠ c'.r.j ∧ listed.getD c'.r.j false = false := by
  obtain ⟨j, hrj, hj, ho, _⟩ := D.row hc
  have hlt : c.r.j < listed.size := by rw [I.size, hj]; exact (Array.getElem?_eq_some_iff.1 ho).1
  rw [lset hlt] at h
  split at h
  · cases h
  · rename_i hne; exact ⟨hne, h⟩

include hcx hcall in
/-- **One operation that is ready, in whatever order.** -/
theorem Inv.op {c : Rec} (hc : c ∈ recs) (hl : listed.getD c.r.j false = false) (he : ∀ e ∈ c.r.o.after.toList, Region.binds .any e = true → listed.getD e.on false = true)
    (hcl : isLoudR c.r = true → (recs.filter fun c => isLoudR c.r)[s]? = some c ∧ (louds rows)[s]? = some c.r) {r : Option Nat} {n : Nat} {Q : Exit → Act → World → Prop} {Kp : Act → World → Prop}
    (hK : ∀ s' μ' a' w', Inv cx base w0 nn ops fr0 H0 μ0 ds rows recs Hs (listed.setIfInBounds c.r.j true) s' μ' a' w' → Kp a' w') : wpOpIn (FF r) n P ops Q c.r.j Kp a w := by
  obtain ⟨j, hrj, hj, ho, hkind, hbs, hlo, hhi⟩ := D.row hc
  obtain ⟨g, hf, hcg, hwg, hgk⟩ := Inv.env D I hc hl he
  obtain ⟨hs1, hs2⟩ := Inv.stage D I hc hl he
  obtain ⟨K, hKs, hw⟩ := I.heap
  have hlt : c.r.j < listed.size := by rw [I.size, hj]; exact (Array.getElem?_eq_some_iff.1 ho).1
  have hHK : H0.next ≤ K.next := D.run.nexts.1 K (List.mem_of_getElem? hKs)
  unfold wpOpIn
  rw [hj]
  simp only [ho]
  rw [wanted_sound hf ops c.r.o hgk, hwg]
  by_cases hloud : isLoudR c.r = true
  · obtain ⟨hlr, hls⟩ := hcl hloud
    obtain ⟨Hk, Ha, Hk1, h1, h2, h3, h4, h5⟩ := D.run.loud D.kinds s c hlr
    rw [hKs] at h1; injection h1 with h1; subst h1
    have hst : s + 1 ≤ (louds rows).length ∧ ∀ (k : Nat) (r : Row), (louds rows)[k]? = some r → ((listed.setIfInBounds c.r.j true).getD r.j false = true ↔ k < s + 1) := by
      refine ⟨(List.getElem?_eq_some_iff.1 hls).1, fun k r' hk => ?_⟩
      rw [lset hlt]
      by_cases hks : k = s
      · subst hks
        rw [hls] at hk; injection hk with hk; subst hk
        simp
      · have hne : c.r.j ≠ r'.j := by
          intro e
          have hr' := louds_mem.1 (List.mem_of_getElem? hk)
          obtain ⟨j', hj'⟩ := List.getElem?_of_mem hr'.1
          have hsame := D.sameRow hrj hj' e
          have hnl := I.st.2 k r' hk
          rw [← hsame, hl] at hnl
          have hge : ¬ k < s := fun h => by have := hnl.2 h; cases this
          obtain ⟨q, hq⟩ : ∃ q, k = q + 1 := ⟨k - 1, by omega⟩
          have hqlt : q < (louds rows).length := by have := (List.getElem?_eq_some_iff.1 hk).1; omega
          have hch := chained_get _ D.ch q _ r' (List.getElem?_eq_getElem hqlt) (by rw [← hq]; exact hk)
          rw [← hsame] at hch
          have hcl2 := Inv.closed D I hc he _ hch
          have := (I.st.2 q _ (List.getElem?_eq_getElem hqlt)).1 hcl2
          omega
        rw [if_neg hne]
        rw [I.st.2 k r' hk]; omega
    have goOn : ∀ Z w', LoudOK cx base w0 μ K c.v Ha Z w' → Kp (a.put c.r.o.dst Z) w' := by
      rintro Z w' ⟨hn1, μ', hg, hv, hw'⟩
      refine hK (s + 1) μ' _ w' (Inv.step D I hc hl he (hw.ext hg) h3 (h4.relW hw') hst (fun c' hc' hm hu => ?_) hv (I.grow.trans hg hHK))
      obtain ⟨_, hu2⟩ := Inv.idsOf D I hc hc' hu
      rcases h5 c' hc' hm with h6 | h6
      · rw [hg.same _ h6]; exact I.ids c' hc' hm hu2
      · cases hx : μ' c'.id with
        | none => rfl
        | some i => have := hw'.fresh _ _ hx; omega
    obtain ⟨-, h2⟩ := aStep_eq h2
    unfold aStep0 at h2
    rw [cb_eq] at h2
    split at h2
    · rename_i hwt
      rw [if_pos hwt]
      rw [← aOp_congr cx call K hcg] at h2
      exact aOp_sound hcx hw hf hcall h2 goOn
    · rename_i hwt
      rw [if_neg hwt]
      injection h2 with h2; injection h2 with h6 h7
      refine ⟨fun _ _ => trivial, goOn undef w ?_⟩
      rw [← h6, ← h7]; exact LoudOK.same rfl .undef hw
  · have hloud : isLoudR c.r = false := by simpa using hloud
    have hst := Inv.calm D I hc hloud
    have hids : ∀ c' ∈ recs, c'.madeW ops.toList → (listed.setIfInBounds c.r.j true).getD c'.r.j false = false → μ c'.id = none := fun c' hc' hm hu => I.ids c' hc' hm (Inv.idsOf D I hc hc' hu).2
    split
    · rename_i hwt
      obtain ⟨hq, hm⟩ := D.ok c hc hwt s K hs1 hs2 hKs
      have hnl : c.r.k ≠ .loud := fun e => by rw [loudR_iff.2 e] at hloud; cases hloud
      have hcase : c.r.k = .quiet ∨ c.r.k = .made := by
        cases hck : c.r.k with
        | made => exact .inr rfl
        | quiet => exact .inl rfl
        | loud => exact absurd hck hnl
      rcases hcase with hck | hck
      · have hqv := hq hck
        rw [← aQuiet_congr cx K hcg] at hqv
        obtain ⟨x, w', hrun, hv, hw'⟩ := aQuiet_sound hcx hw hf hqv
        refine uponIn_value (fun d e => ?_) hrun (hK s μ _ w' (Inv.step D I hc hl he (Ext.refl μ) hKs hw' hst hids hv I.grow))
        rw [e] at hqv; simp [aQuiet] at hqv
      · obtain ⟨m, hm1, hm2, hm3⟩ := hm hck
        obtain ⟨m', hm4, hm5⟩ := D.run.made D.kinds c hc ⟨hck, hwt⟩
        rw [hm1] at hm4; injection hm4 with hm4; subst hm4
        rw [← aMade_congr cx hcg] at hm1
        obtain ⟨x, ob, i, w1, hrun, hok⟩ := aMade_sound (base := base) hcx hf hm1 (by rw [← hkind]; exact hck) w
        have hnone := I.ids c hc ⟨hck, hwt⟩ hl
        have hext := ext_set i hnone
        have hw1 : RelW (szOf cx) base w0 μ K w1 := by
          refine ⟨⟨hok.os.trans hw.below.os, hok.tape.trans hw.below.tape, hok.out.trans hw.below.output, by rw [hok.heap]; exact hw.below.size, fun k hk => by rw [hok.heap]; exact hw.below.block k hk⟩, by rw [hok.heap]; exact hw.baseLe, hw.fresh,
            fun b i e => (hw.blk b i e).same fun _ => by rw [hok.heap], hw.apart, by rw [hok.heap]; exact hw.froz, hw.frozApart, by rw [hok.heap]; exact hw.lo⟩
        have hw' : RelW (szOf cx) base w0 (μ.set c.id i) K (w1.alloc ob) := by
          refine RelW.bind hw1 hnone hm2 ob i (by rw [hok.at_, hok.heap]) ?_
          rw [hm3]
          exact hok.blk _ hext hw.newOK
        have hge := D.run.nexts.2 c hc
        refine uponIn_value (fun d e => ?_) hrun (hK s (μ.set c.id i) _ _ (Inv.step D I hc hl he hext hKs hw' hst (fun c' hc' hm' hu => ?_) ?_ ?_))
        · rw [e] at hkind; simp [kindOf] at hkind; rw [hck] at hkind; cases hkind
        · obtain ⟨hne, hu2⟩ := Inv.idsOf D I hc hc' hu
          have hidne : c'.id ≠ c.id := by
            obtain ⟨pre, post, hsplit⟩ := List.append_of_mem hc
            have hc2 := hc'
            rw [hsplit] at hc2
            simp only [List.mem_append, List.mem_cons] at hc2
            rcases hc2 with h6 | h6 | h6
            · obtain ⟨pre2, post2, hsplit2⟩ := List.append_of_mem h6
              have := D.run.idsUp D.kinds pre2 c' (post2 ++ c :: post) (by rw [hsplit, hsplit2]; simp) hm' c (by simp)
              omega
            · subst h6; exact absurd rfl hne
            · have := D.run.idsUp D.kinds pre c post hsplit ⟨hck, hwt⟩ c' h6
              omega
          rw [Inj.set_ne _ _ hidne]
          exact I.ids c' hc' hm' hu2
        · rw [hm5]; exact hok.val _ _ hext (Inj.set_same _ _ _)
        · exact ⟨fun b hb => by rw [Inj.set_ne _ _ (by omega)]; exact I.grow.same b hb, I.grow.fz, I.grow.lo, I.grow.fzn⟩
    · rename_i hwt
      have hv := D.run.unwanted c hc (by simpa using hwt)
      refine ⟨fun _ _ => trivial, hK s μ _ w (Inv.step D I hc hl he (Ext.refl μ) hKs hw hst hids ?_ I.grow)⟩
      rw [hv]; exact .undef

/-- All are done. -/
theorem Inv.done (hall : ∀ j, j < ops.size → listed.getD j false = true) : RunOK cx base w0 nn μ0 H0 ds fr1 (Hs.getLastD H0) a w := by
  obtain ⟨K, hKs, hw⟩ := I.heap
  have hlen := D.run.heaps
  rw [D.hp, planOf_louds _ _ (fun l hl => (louds_mem.1 hl).2)] at hlen
  have hs : s = (louds rows).length := by
    rcases Nat.lt_or_ge s (louds rows).length with h | h
    · exfalso
      have hg := List.getElem?_eq_getElem h
      have hr := louds_mem.1 (List.mem_of_getElem? hg)
      obtain ⟨j', hj'⟩ := List.getElem?_of_mem hr.1
      obtain ⟨g1, g2, _⟩ := D.rok.get j' _ hj'
      have h1 := hall j' (Array.getElem?_eq_some_iff.1 g2).1
      rw [← g1] at h1
      have := (I.st.2 s _ hg).1 h1
      omega
    · have := I.st.1; omega
  have hlast : Hs.getLastD H0 = K := by
    rw [List.getLastD_eq_getLast?, List.getLast?_eq_getElem?, hlen]
    simp only [Nat.add_sub_cancel]
    rw [← hs, hKs]; rfl
  rw [hlast]
  refine ⟨D.run.nexts.1 K (List.mem_of_getElem? hKs), ⟨μ, I.grow, fun t => ?_, hw⟩, I.tsize, I.defers⟩
  rcases D.run.frame t with ⟨h1, h2⟩ | ⟨c, h1, h2, h3⟩
  · rw [h1]
    rcases I.frame t with ⟨c, h4, h5, _⟩ | ⟨_, h4⟩
    · exact absurd h5 (h2 c h4)
    · exact h4
  · rw [h3]
    rcases I.frame t with ⟨c', h4, h5, _, h6⟩ | ⟨h4, _⟩
    · rw [D.one h1 h4 h2 h5]; exact h6
    · exfalso
      have := h4 c h1 h2
      obtain ⟨j, _, hj, ho, _⟩ := D.row h1
      rw [hj, hall j (Array.getElem?_eq_some_iff.1 ho).1] at this
      cases this

omit I in
/-- the record of an operation that is ready. -/
theorem Drawn.pick (I : Inv cx base w0 nn ops fr0 H0 μ0 ds rows recs Hs listed s μ a w) {i : Nat} {o : Oper} (ho : ops[i]? = some o) (hl : listed.getD i false = false)
    (he : ∀ e ∈ o.after.toList, Region.binds .any e = true → listed.getD e.on false = true) :
    ∃ c ∈ recs, c.r.j = i ∧ c.r.o = o ∧ (isLoudR c.r = true → (recs.filter fun c => isLoudR c.r)[s]? = some c ∧ (louds rows)[s]? = some c.r) := by
  have hlt : i < rows.length := by rw [D.rok.len]; exact (Array.getElem?_eq_some_iff.1 ho).1
  obtain ⟨r, hr⟩ : ∃ r, rows[i]? = some r := ⟨_, List.getElem?_eq_getElem hlt⟩
  obtain ⟨g1, g2, g3, g4, g5, g6⟩ := D.rok.get i r hr
  have hro : r.o = o := by rw [g2] at ho; injection ho
  by_cases hloud : isLoudR r = true
  · have hrl : r ∈ louds rows := louds_mem.2 ⟨List.mem_of_getElem? hr, hloud⟩
    obtain ⟨k, hk⟩ := List.getElem?_of_mem hrl
    have hnk : ¬ k < s := fun h => by
      have := (I.st.2 k r hk).2 h
      rw [g1, hl] at this; cases this
    have hks : k = s := by
      rcases Nat.lt_or_ge s k with h | h
      · exfalso
        obtain ⟨q, hq⟩ : ∃ q, k = q + 1 := ⟨k - 1, by omega⟩
        have hqlt : q < (louds rows).length := by have := (List.getElem?_eq_some_iff.1 hk).1; omega
        have hch := chained_get _ D.ch q _ r (List.getElem?_eq_getElem hqlt) (by rw [← hq]; exact hk)
        have hcl2 := bits_closed D.hb (E := fun i => listed.getD i false = true) I.dc i r.o r.b g2 g4 (by rw [hro]; exact he) _ hch
        have := (I.st.2 q _ (List.getElem?_eq_getElem hqlt)).1 hcl2
        omega
      · omega
    subst hks
    have hmap : (recs.filter fun c => isLoudR c.r).map (·.r) = louds rows := by
      have h1 := D.run.map
      rw [← planOf_louds (rows := rows) (louds rows) 0 (fun l hl => (louds_mem.1 hl).2), ← D.hp, ← h1, List.filter_map]
      rfl
    have : ((recs.filter fun c => isLoudR c.r).map (·.r))[k]? = some r := by rw [hmap]; exact hk
    rw [List.getElem?_map] at this
    cases hx : (recs.filter fun c => isLoudR c.r)[k]? with
    | none => rw [hx] at this; cases this
    | some c =>
      rw [hx] at this
      simp only [Option.map_some] at this
      injection this with this
      have hcm := List.mem_of_getElem? hx
      exact ⟨c, (List.mem_filter.1 hcm).1, by rw [this]; exact g1, by rw [this]; exact hro, fun _ => ⟨rfl, by rw [this]; exact hk⟩⟩
  · have hnl : isLoudR r = false := by simpa using hloud
    have hrp : r ∈ plan := by
      rw [D.hp, planOf_mem]
      refine .inr ⟨List.mem_of_getElem? hr, hnl, Nat.zero_le _, ?_⟩
      rw [g5, Nat.zero_add]
      have := lo_top r.b ((louds rows).map (·.j))
      rwa [List.length_map] at this
    rw [← D.run.map] at hrp
    obtain ⟨c, hc, hcr⟩ := List.mem_map.1 hrp
    refine ⟨c, hc, by rw [hcr]; exact g1, by rw [hcr]; exact hro, fun h => ?_⟩
    rw [hcr, hnl] at h; cases h

omit I in
include hcx hcall in
/-- **Whatever order is drawn.** -/
theorem Drawn.any {r : Option Nat} {n : Nat} {Q : Exit → Act → World → Prop} (hq : ∀ a' w', RunOK cx base w0 nn μ0 H0 ds fr1 (Hs.getLastD H0) a' w' → Q .normal a' w') :
    ∀ (fuel : Nat) (listed : Array Bool) (s : Nat) (μ : Inj) (a : Act) (w : World), Inv cx base w0 nn ops fr0 H0 μ0 ds rows recs Hs listed s μ a w → listed.toList.countP (fun b => !b) = fuel →
      wpAnyIn (FF r) n P .any ops Q fuel listed a w := by
  have getT : ∀ {listed : Array Bool} {j : Nat}, j < listed.size → listed.getD j true = listed.getD j false := fun {listed j} h => by
    simp [Array.getD, h]
  have nilAll : ∀ (listed : Array Bool), listed.size = ops.size → Region.ready .any ops listed = [] → ∀ j, j < ops.size → listed.getD j false = true := by
    intro listed hsz hnil j
    induction j using Nat.strongRecOn with
    | ind j ih =>
      intro hj
      cases hl : listed.getD j false with
      | true => rfl
      | false =>
        exfalso
        have : j ∈ Region.ready .any ops listed := by
          rw [mem_ready]
          refine ⟨by rw [getT (by omega)]; exact hl, _, Array.getElem?_eq_getElem hj, fun e he hb => ?_⟩
          have hlt := edges_back D.hb (Array.getElem?_eq_getElem hj) e (by simpa using he) hb
          exact ih e.on hlt (by omega)
        rw [hnil] at this; cases this
  intro fuel
  induction fuel with
  | zero =>
    intro listed s μ a w I hcount
    have hall : ∀ j, j < ops.size → listed.getD j false = true := by
      intro j hj
      have hj' : j < listed.size := by rw [I.size]; exact hj
      rw [List.countP_eq_zero] at hcount
      have := hcount listed[j] (by simp)
      simp only [Array.getD, hj', dif_pos]
      simpa using this
    refine ⟨?_, hq a w (Inv.done D I hall)⟩
    cases hr : Region.ready .any ops listed with
    | nil => rfl
    | cons i is =>
      exfalso
      have hi : i ∈ Region.ready .any ops listed := by rw [hr]; simp
      obtain ⟨h1, o, ho, _⟩ := mem_ready.1 hi
      have hlt := (Array.getElem?_eq_some_iff.1 ho).1
      rw [getT (by rw [I.size]; exact hlt), hall i hlt] at h1
      cases h1
  | succ fuel ih =>
    intro listed s μ a w I hcount
    refine ⟨fun hnil => hq a w (Inv.done D I (nilAll listed I.size hnil)), fun i hi => ?_⟩
    obtain ⟨h1, o, ho, he⟩ := mem_ready.1 hi
    have hlt := (Array.getElem?_eq_some_iff.1 ho).1
    have hlt' : i < listed.size := by rw [I.size]; exact hlt
    rw [getT hlt'] at h1
    have he' : ∀ e ∈ o.after.toList, Region.binds .any e = true → listed.getD e.on false = true := fun e hee hb => he e (by simpa using hee) hb
    obtain ⟨c, hc, rfl, rfl, hcl⟩ := Drawn.pick D I ho h1 he'
    refine Inv.op hcx hcall D I hc h1 he' hcl fun s' μ' a' w' I' => ih _ s' μ' a' w' I' ?_
    rw [Array.toList_setIfInBounds, List.countP_set (by simpa using hlt')]
    have hb : listed.toList[c.r.j]'(by simpa using hlt') = false := by
      have : listed.getD c.r.j false = listed[c.r.j] := by simp [Array.getD, hlt']
      rw [h1] at this
      simpa using this.symm
    rw [hb, hcount]
    simp
end

section
variable {P : Program} {cx : Cx} (hcx : CxOK P cx) {base : Nat → Prop} {w0 : World} {call : Caller} (hcall : CallerOK P cx base w0 call)
include hcx hcall

theorem aDraw_sound {nn : Nat} {ops : Array Oper} {id : Nat} {r : Option Nat} {n : Nat} {Q : Exit → Act → World → Prop} {μ : Inj} {fr fr' : Fr} {H H' : Heap} {a : Act} {w : World}
    (h : aDraw cx call nn ops.toList fr H = some (fr', H')) (hf : RelF μ fr.get a.tmps) (hs : a.tmps.size = nn) (hw : RelW (szOf cx) base w0 μ H w)
    (hq : ∀ a' w', RunOK cx base w0 nn μ H a.defers fr' H' a' w' → Q .normal a' w') : (Code.region id ops true).wpIn (FF r) n P Q a w := by
  unfold aDraw at h
  replace h := ob_eq h; obtain ⟨p, hp, h⟩ := h
  replace h := ob_eq h; obtain ⟨y, hy, h⟩ := h
  split at h
  · rename_i hok
    injection h with h; injection h with h1 h2; subst h1; subst h2
    unfold mkPlan at hp
    replace hp := ob_eq hp; obtain ⟨rows, hrows, hp⟩ := hp
    simp only at hp
    split at hp
    · rename_i hc
      obtain ⟨_, hch, hft⟩ := hc
      injection hp with hp; subst hp
      simp only at hy hok
      obtain ⟨bs, hbs, hrok⟩ := rowsOf_ok hrows
      have hrun := drawRun_srun _ _ _ _ hy
      have hrowmem : ∀ r ∈ planOf rows (louds rows) 0, r ∈ rows := by
        intro r hr
        rw [planOf_mem] at hr
        rcases hr with h | h
        · exact (louds_mem.1 h).1
        · exact h.1
      have hkinds : ∀ r ∈ planOf rows (louds rows) 0, r.k = kindOf cx r.o.op := by
        intro r hr
        obtain ⟨j, hj⟩ := List.getElem?_of_mem (hrowmem r hr)
        exact (hrok.get j r hj).2.2.1
      have D : Drawn cx call nn ops fr H bs rows (planOf rows (louds rows) 0) y.1 y.2.1 y.2.2 := by
        refine ⟨hbs, hrok, rfl, hrun, hch, hft, fun c hc hwt s K hlo hhi hK => ?_⟩
        rw [Bool.or_eq_true] at hok
        rcases hok with hok | hok
        · have hq' : ∀ r ∈ planOf rows (louds rows) 0, r.k = .quiet := by
            intro r hr
            have := List.all_eq_true.1 hok r (hrowmem r hr)
            split at this
            · assumption
            · cases this
          obtain ⟨h1, h2⟩ := hrun.quiets hkinds hq'
          have hck : c.r.k = .quiet := hq' c.r (by rw [← hrun.map]; exact List.mem_map_of_mem hc)
          rw [h1] at hK
          have : K = H := by
            cases s with
            | zero => simpa using hK.symm
            | succ s => simp at hK
          subst this
          exact ⟨fun _ => h2 c hc hwt, fun e => by rw [hck] at e; cases e⟩
        · have := List.all_eq_true.1 hok c hc
          unfold recHolds at this
          rw [if_pos hwt] at this
          have hmem : K ∈ (y.2.1.take (c.r.hi + 1)).drop c.r.lo := by
            refine List.mem_of_getElem? (i := s - c.r.lo) ?_
            rw [List.getElem?_drop, List.getElem?_take, if_pos (by omega), ← hK]
            congr 1; omega
          constructor
          · intro hck
            rw [hck] at this
            have := List.all_eq_true.1 this K hmem
            split at this
            · rename_i v hv; rw [hv, AV.beq_eq _ _ this]
            · cases this
          · intro hck
            rw [hck] at this
            have := List.all_eq_true.1 this K hmem
            split at this
            · rename_i m hm
              rw [Bool.and_eq_true, nble] at this
              exact ⟨m, hm, of_decide_eq_true this.1, Blk.same_eq this.2⟩
            · cases this
      obtain ⟨K0, hK0, hnews⟩ := hrun.head hkinds
      refine wpIn_region_any hcx.order ?_
      have hfalse : ∀ j, (Array.replicate ops.size false).getD j false = false := fun j => by
        simp [Array.getD]
      refine Drawn.any hcx hcall D (μ0 := μ) (ds := a.defers) hq ops.size _ 0 μ a _ ⟨by simp, fun j o _ hl => (by rw [hfalse] at hl; cases hl), ⟨Nat.zero_le _, fun k r _ => (by rw [hfalse]; simp)⟩,
        ⟨K0, hK0, hnews.relW (hw.drew _)⟩, fun c hc _ _ => ?_, fun t => .inr ⟨fun c _ _ => hfalse _, hf t⟩, hs, rfl, Grow.refl _ _⟩ (by simp [List.countP_replicate])
      cases hx : μ c.id with
      | none => rfl
      | some i => have := hw.fresh _ _ hx; have := hrun.nexts.2 c hc; omega
    · cases hp
  · cases h
end
end Go.Ab
