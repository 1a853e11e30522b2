/- A run in a small heap, taken to a larger one: values under other numbers; what is kept, what is new. -/
import Derived.Test.YtecncappdnhbaaaAbV
set_option autoImplicit false
set_option linter.unusedVariables false
set_option linter.unusedSimpArgs false
set_option linter.unusedSectionVars false
noncomputable section
namespace Go.Ab
open Go.RowKit

mutual
/-- the same value, of other blocks. -/
def AV.ren (ρ : Nat → Nat) : AV → AV
  | .ptr p => .ptr (p.map fun a => (ρ a.1, a.2))
  | .slice p l c => .slice (p.map fun a => (ρ a.1, a.2)) l c
  | .map r => .map (r.map ρ)
  | .func f x y => .func f (AV.renL ρ x) (AV.renL ρ y)
  | .yield l => .yield (ρ l)
  | .iface t v => .iface t (v.ren ρ)
  | .agg cs => .agg (AV.renL ρ cs)
  | .tuple cs => .tuple (AV.renL ρ cs)
  | .fsl n l cs => .fsl n l (AV.renL ρ cs)
  | .fptr cs => .fptr (AV.renL ρ cs)
  | v => v
def AV.renL (ρ : Nat → Nat) : List AV → List AV
  | [] => []
  | v :: vs => v.ren ρ :: AV.renL ρ vs
end
theorem AV.renL_length (ρ : Nat → Nat) (l : List AV) : (AV.renL ρ l).length = l.length := by
  induction l with
  | nil => rfl
  | cons v vs ih => simp [AV.renL, ih]
theorem AV.renL_map (ρ : Nat → Nat) (l : List AV) : AV.renL ρ l = l.map (AV.ren ρ) := by
  induction l with
  | nil => rfl
  | cons v vs ih => simp [AV.renL, ih]

mutual
/-- are all its blocks of a set? nf: is nothing of it frozen? -/
def AV.ok (nf : Bool) (p : Nat → Bool) : AV → Bool
  | .ptr a => match a with | none => true | some a => p a.1
  | .slice a _ _ => match a with | none => true | some a => p a.1
  | .map r => match r with | none => true | some r => p r
  | .func _ x y => AV.okL nf p x && AV.okL nf p y
  | .yield l => p l
  | .iface _ v => v.ok nf p
  | .agg cs => AV.okL nf p cs
  | .tuple cs => AV.okL nf p cs
  | .fsl _ _ cs => !nf && AV.okL nf p cs
  | .fptr cs => !nf && AV.okL nf p cs
  | _ => true
def AV.okL (nf : Bool) (p : Nat → Bool) : List AV → Bool
  | [] => true
  | v :: vs => v.ok nf p && AV.okL nf p vs
end

mutual
theorem RelV.ren {nf : Bool} {p : Nat → Bool} {ρ : Nat → Nat} {μ μ' : Inj} (hm : ∀ b i, p b = true → μ b = some i → μ' (ρ b) = some i) (hz : nf = false → ∀ k arr, μ.fz k = some arr → μ'.fz k = some arr) :
    ∀ {v : AV} {x : Value}, v.ok nf p = true → RelV μ v x → RelV μ' (v.ren ρ) x
  | _, _, _, .undef => .undef
  | _, _, _, .any => .any
  | _, _, _, .int k n => .int k n
  | _, _, _, .bool b => .bool b
  | _, _, _, .str s => .str s
  | _, _, _, .ptrN => .ptrN
  | _, _, h, .ptr e => .ptr (hm _ _ (by simpa [AV.ok] using h) e)
  | _, _, _, .sliceN => .sliceN
  | _, _, h, .slice e a b => .slice (hm _ _ (by simpa [AV.ok] using h) e) a b
  | _, _, h, .sliceU e a b c => .sliceU (hm _ _ (by simpa [AV.ok] using h) e) a b c
  | _, _, _, .mapN => .mapN
  | _, _, h, .map e => .map (hm _ _ (by simpa [AV.ok] using h) e)
  | _, _, h, .func a b => by
    simp only [AV.ok, Bool.and_eq_true] at h
    exact .func (RelL.ren hm hz h.1 a) (RelL.ren hm hz h.2 b)
  | _, _, h, .yield e => .yield (hm _ _ (by simpa [AV.ok] using h) e)
  | _, _, _, .nilFunc => .nilFunc
  | _, _, _, .nilIface => .nilIface
  | _, _, h, .iface a => .iface (RelV.ren hm hz (by simpa [AV.ok] using h) a)
  | _, _, h, .agg a => .agg (RelL.ren hm hz (by simpa [AV.ok] using h) a)
  | _, _, h, .tuple a => .tuple (RelL.ren hm hz (by simpa [AV.ok] using h) a)
  | _, _, _, .fslN => .fslN
  | .fsl _ _ cs, _, h, .fsl a b c d => by
    simp only [AV.ok, Bool.and_eq_true, Bool.not_eq_true'] at h
    refine .fsl (fun hn => ⟨(a fun e => hn (by rw [e]; rfl)).1, hz h.1 _ _ (a fun e => hn (by rw [e]; rfl)).2⟩) (RelL.ren hm hz h.2 b) c d
  | .fptr cs, _, h, .fptr a b c => by
    simp only [AV.ok, Bool.and_eq_true, Bool.not_eq_true'] at h
    refine .fptr (fun hn => ⟨(a fun e => hn (by rw [e]; rfl)).1, hz h.1 _ _ (a fun e => hn (by rw [e]; rfl)).2⟩) (RelL.ren hm hz h.2 b) c
theorem RelL.ren {nf : Bool} {p : Nat → Bool} {ρ : Nat → Nat} {μ μ' : Inj} (hm : ∀ b i, p b = true → μ b = some i → μ' (ρ b) = some i) (hz : nf = false → ∀ k arr, μ.fz k = some arr → μ'.fz k = some arr) :
    ∀ {v : List AV} {x : List Value}, AV.okL nf p v = true → RelL μ v x → RelL μ' (AV.renL ρ v) x
  | _, _, _, .nil => .nil
  | _, _, h, .cons a b => by
    simp only [AV.okL, Bool.and_eq_true] at h
    exact .cons (RelV.ren hm hz h.1 a) (RelL.ren hm hz h.2 b)
end

theorem AV.okL_get {nf : Bool} {p : Nat → Bool} : ∀ {cs : List AV} {k : Nat} {u : AV}, AV.okL nf p cs = true → cs[k]? = some u → u.ok nf p = true := by
  intro cs
  induction cs with
  | nil => intro k u _ h; cases h
  | cons c cs ih =>
    intro k u hc hx
    simp only [AV.okL, Bool.and_eq_true] at hc
    cases k with
    | zero => simp at hx; subst hx; exact hc.1
    | succ k => exact ih hc.2 (by simpa using hx)

/-- a block of cells, of other blocks. -/
def Blk.ren (ρ : Nat → Nat) : Blk → Blk
  | .cells o e n cs => .cells o e n (AV.renL ρ cs)
  | _ => .dead
/-- may a block of its own be taken over? -/
def Blk.ok (nf : Bool) (p : Nat → Bool) : Blk → Bool
  | .cells o _ _ cs => o && AV.okL nf p cs
  | _ => false

theorem RelB.ren {sz : TypeId → Nat} {base base' : Nat → Prop} {nf : Bool} {p : Nat → Bool} {ρ : Nat → Nat} {μ μ' : Inj} (hm : ∀ b i, p b = true → μ b = some i → μ' (ρ b) = some i) (hz : nf = false → ∀ k arr, μ.fz k = some arr → μ'.fz k = some arr)
    {i : BI} {w : World} {b : Blk} (hb : b.ok nf p = true) (hbase : base' i.blk → base i.blk) (h : RelB sz base μ i w b) : RelB sz base' μ' i w (b.ren ρ) := by
  cases b <;> simp only [Blk.ok] at hb <;> try (cases hb; done)
  rename_i o e n cs
  simp only [Bool.and_eq_true] at hb
  obtain ⟨ho, hc⟩ := hb
  obtain ⟨hl, arr, e', fr, ha, hcs, hown⟩ := h
  refine ⟨by rw [AV.renL_length]; exact hl, arr, e', fr, ha, fun k v hv => ?_, fun h => ?_⟩
  · rw [AV.renL_map, List.getElem?_map] at hv
    cases hx : cs[k]? with
    | none => rw [hx] at hv; cases hv
    | some u =>
      rw [hx] at hv
      injection hv with hv; subst hv
      obtain ⟨x, h1, h2⟩ := hcs k u hx
      exact ⟨x, h1, RelV.ren hm hz (AV.okL_get hc hx) h2⟩
  · obtain ⟨h1, h2⟩ := hown h
    exact ⟨fun hh => h1 (hbase hh), h2⟩

section
variable {sz : TypeId → Nat} {prot prot' : Nat → Prop} {w0 w w' : World} {μ μs : Inj} {H Hs : Heap}

/-- The injection of the larger heap behind a run in the small one. -/
def Inj.join (μ μs : Inj) (n : Nat) (sel : List Nat) (fz : Nat → Option (Array Value)) : Inj :=
  ⟨fun c => if c < n then μ c else (sel[c - n]?).bind fun j => μs j, fz, μ.lo⟩

set_option maxHeartbeats 1000000 in
/-- **What a run in a small heap leaves, in the larger one**: sel: the blocks that are new; per: those of the larger heap that it wrote. -/
theorem rebuild (hw : RelW sz prot w0 μ H w) (hs : RelW sz prot' w μs Hs w') (nf : Bool) (keep : Nat → Bool) (ρ : Nat → Nat) (sel : List Nat) (per : Nat → Option Nat) (fz : Nat → Option (Array Value)) (H' : Heap)
    (hpp : ∀ k, prot k → prot' k)
    (hfz : ∀ k arr, μ.fz k = some arr → fz k = some arr) (hfz2 : ∀ k arr, fz k = some arr → μs.fz k = some arr) (hfz3 : ∀ k arr, fz k = some arr → μ.fz k = some arr ∨ w.heap.size ≤ k) (hnf : nf = false → ∀ k arr, μs.fz k = some arr → fz k = some arr)
    (hnext : H'.next = H.next + sel.length) (hnd : ∀ (l l' j : Nat), sel[l]? = some j → sel[l']? = some j → l = l')
    (hkeep : ∀ j, keep j = true → (∃ l, sel[l]? = some j ∧ ρ j = H.next + l) ∨ (ρ j < H.next ∧ μs j = μ (ρ j)))
    (hold : ∀ c, c < H.next → H'.get c = .dead ∨ (per c = none ∧ H'.get c = H.get c ∧ ∀ i, μ c = some i → (H.get c).live = true → prot' i.blk) ∨
      ∃ j, per c = some j ∧ μs j = μ c ∧ H'.get c = (Hs.get j).ren ρ ∧ (Hs.get j).ok nf keep = true ∧ j ∉ sel)
    (hper : ∀ c c' j, per c = some j → per c' = some j → c = c')
    (hnew : ∀ (l j : Nat), sel[l]? = some j → H'.get (H.next + l) = (Hs.get j).ren ρ ∧ (Hs.get j).ok nf keep = true) :
    RelW sz prot w0 (Inj.join μ μs H.next sel fz) H' w' ∧ (∀ b i, keep b = true → μs b = some i → Inj.join μ μs H.next sel fz (ρ b) = some i) ∧ Grow H.next μ (Inj.join μ μs H.next sel fz) := by
  have hlo : ∀ k arr, fz k = some arr → μ.fz k = some arr ∨ μ.lo ≤ k := fun k arr e => (hfz3 k arr e).imp id fun h => Nat.le_trans hw.lo h
  have hold_lt : ∀ c, c < H.next → Inj.join μ μs H.next sel fz c = μ c := fun c hc => by show (if _ then _ else _) = _; rw [if_pos hc]
  have hnew_at : ∀ l, Inj.join μ μs H.next sel fz (H.next + l) = (sel[l]?).bind fun j => μs j := fun l => by
    show (if _ then _ else _) = _
    rw [if_neg (by omega)]; congr 2; omega
  have hm : ∀ b i, keep b = true → μs b = some i → Inj.join μ μs H.next sel fz (ρ b) = some i := by
    intro b i hk hb
    rcases hkeep b hk with ⟨l, hl, he⟩ | ⟨h1, h2⟩
    · rw [he, hnew_at, hl]; exact hb
    · rw [hold_lt _ h1, ← h2]; exact hb
  have hext : Ext μ (Inj.join μ μs H.next sel fz) := ⟨fun b i e => by rw [hold_lt b (hw.fresh b i e)]; exact e, hfz⟩
  -- the kinds of blocks: as it was; of the small run
  have kinds : ∀ c i, Inj.join μ μs H.next sel fz c = some i → (H'.get c).live = true → (c < H.next ∧ μ c = some i ∧ H'.get c = H.get c ∧ prot' i.blk) ∨
      ∃ j, μs j = some i ∧ H'.get c = (Hs.get j).ren ρ ∧ (Hs.get j).ok nf keep = true ∧ (per c = some j ∧ c < H.next ∧ j ∉ sel ∨ ∃ l, c = H.next + l ∧ sel[l]? = some j) := by
    intro c i hc hl
    by_cases hlt : c < H.next
    · rw [hold_lt c hlt] at hc
      rcases hold c hlt with h | ⟨h0, h1, h2⟩ | ⟨j, h1, h2, h3, h4, h5⟩
      · rw [h] at hl; cases hl
      · exact .inl ⟨hlt, hc, h1, h2 i hc (by rw [← h1]; exact hl)⟩
      · exact .inr ⟨j, by rw [h2]; exact hc, h3, h4, .inl ⟨h1, hlt, h5⟩⟩
    · obtain ⟨l, rfl⟩ : ∃ l, c = H.next + l := ⟨c - H.next, by omega⟩
      rw [hnew_at] at hc
      cases hs' : sel[l]? with
      | none => rw [hs'] at hc; cases hc
      | some j =>
        rw [hs'] at hc
        obtain ⟨h1, h2⟩ := hnew l j hs'
        exact .inr ⟨j, hc, h1, h2, .inr ⟨l, rfl, hs'⟩⟩
  have okw : ∀ j, (Hs.get j).ok nf keep = true → (Hs.get j).writes = true ∧ (Hs.get j).live = true := by
    intro j h
    cases hx : Hs.get j <;> rw [hx] at h <;> simp only [Blk.ok] at h <;> try (cases h; done)
    simp only [Bool.and_eq_true] at h
    exact ⟨h.1, rfl⟩
  have live_of : ∀ b : Blk, b.writes = true → b.live = true := by intro b h; cases b <;> simp_all [Blk.writes, Blk.live]
  have smalls : ∀ c j, (per c = some j ∧ c < H.next ∧ j ∉ sel ∨ ∃ l, c = H.next + l ∧ sel[l]? = some j) → ∀ c', (per c' = some j ∧ c' < H.next ∧ j ∉ sel ∨ ∃ l, c' = H.next + l ∧ sel[l]? = some j) → c = c' := by
    rintro c j (⟨h1, h2, h3⟩ | ⟨l, rfl, h1⟩) c' (⟨h1', h2', h3'⟩ | ⟨l', rfl, h1'⟩)
    · exact hper c c' j h1 h1'
    · exact absurd (List.mem_of_getElem? h1') h3
    · exact absurd (List.mem_of_getElem? h1) h3'
    · rw [hnd l l' j h1 h1']
  refine ⟨⟨hw.below.trans (hs.below.mono hpp), fun k hk => Nat.lt_of_lt_of_le (hw.baseLe k hk) hs.below.size, fun c i hc => ?_, fun c i hc => ?_, fun c c' i i' hc hc' hne hcw hcl => ?_, fun k arr e => hs.froz k arr (hfz2 k arr e), fun c i k arr hc hcw e => ?_, Nat.le_trans hw.lo hs.below.size⟩, hm,
    ⟨fun b hb => hold_lt b hb, hfz, rfl, hlo⟩⟩
  · rw [hnext]
    by_cases hlt : c < H.next
    · omega
    · obtain ⟨l, rfl⟩ : ∃ l, c = H.next + l := ⟨c - H.next, by omega⟩
      rw [hnew_at] at hc
      cases hs' : sel[l]? with
      | none => rw [hs'] at hc; cases hc
      | some j => have := (List.getElem?_eq_some_iff.1 hs').1; omega
  · by_cases hl : (H'.get c).live = true
    · rcases kinds c i hc hl with ⟨h1, h2, h3, h4⟩ | ⟨j, h1, h2, h3, _⟩
      · rw [h3]
        exact ((hw.blk c i h2).mono hext).same fun _ => hs.below.block _ h4
      · rw [h2]
        exact RelB.ren hm hnf h3 (fun h => hpp _ h) (hs.blk j i h1)
    · have : H'.get c = .dead := by cases hx : H'.get c <;> rw [hx] at hl <;> simp [Blk.live] at hl
      rw [this]; trivial
  · have hcl0 := live_of _ hcw
    rcases kinds c i hc hcl0 with ⟨h1, h2, h3, h4⟩ | ⟨j, h1, h2, h3, h5⟩ <;> rcases kinds c' i' hc' hcl with ⟨h1', h2', h3', h4'⟩ | ⟨j', h1', h2', h3', h5'⟩
    · rw [h3] at hcw; rw [h3'] at hcl
      exact hw.apart c c' i i' h2 h2' hne hcw hcl
    · have := (hs.blk j' i' h1').base (okw j' h3').1
      intro e; rw [e] at h4; exact this h4
    · have := (hs.blk j i h1).base (okw j h3).1
      intro e; rw [← e] at h4'; exact this h4'
    · have hjj : j ≠ j' := by
        intro e; subst e
        exact hne (smalls c j h5 c' h5')
      exact hs.apart j j' i i' h1 h1' hjj (okw j h3).1 (okw j' h3').2
  · have hcl0 := live_of _ hcw
    rcases kinds c i hc hcl0 with ⟨h1, h2, h3, h4⟩ | ⟨j, h1, h2, h3, h5⟩
    · rw [h3] at hcw
      rcases hfz3 k arr e with e | e
      · exact hw.frozApart c i k arr h2 hcw e
      · have := (hw.blk c i h2).lt (live_of _ hcw)
        omega
    · exact hs.frozApart j i k arr h1 (okw j h3).1 (hfz2 k arr e)
end
end Go.Ab
