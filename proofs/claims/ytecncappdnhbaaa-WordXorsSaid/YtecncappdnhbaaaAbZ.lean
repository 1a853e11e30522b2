/- The machine with what is known of functions and of loops; runs that tell a part of what comes. -/
import Derived.Test.YtecncappdnhbaaaAbY
set_option autoImplicit false
set_option linter.unusedVariables false
set_option linter.unusedSimpArgs false
set_option linter.unusedSectionVars false
noncomputable section
namespace Go.Ab
open Go.RowKit

def mkCx (ty : TypeId → Option ATy) (fn : FuncId → Option Func) (ft : FTab) (lt : LTab) : Cx := { ty := ty, fn := fn, sum := ftSum ty ft, loop := ltLoop lt }
def mkS (ty : TypeId → Option ATy) (ft : FTab) (lt : LTab) : SumS := { fn := ftSumS ty ft, loop := ltLoopS lt }
theorem mkS_ok (ty : TypeId → Option ATy) (fn : FuncId → Option Func) (ft : FTab) (lt : LTab) : SumsOK (mkCx ty fn ft lt) (mkS ty ft lt) :=
  ftSums_snd (cx := mkCx ty fn ft lt) rfl (ltLoops_snd rfl)

/-- What is known of a function is so, by itself. -/
def RSum.Sound (P : Program) (ty : TypeId → Option ATy) (g : FuncId) (s : RSum) : Prop :=
  ∀ base w0, SumOK P { ty := ty, fn := fun _ => none, sum := ftSum ty [(g, s)] } base w0
theorem ftSum_one {ty : TypeId → Option ATy} {l : FTab} {g : FuncId} {args : List AV} {H : Heap} {r : AV × Heap} (h : ftSum ty l g args H = some r) : ∃ s, (g, s) ∈ l ∧ ftSum ty [(g, s)] g args H = some r := by
  unfold ftSum at h
  replace h := ob_eq h; obtain ⟨s, hs, h⟩ := h
  refine ⟨s, ftFind_mem hs, ?_⟩
  have : ftFind [(g, s)] g = some s := by
    show cb (Nat.beq g g) (some s) none = _
    simp
  unfold ftSum
  rw [this]; exact h
theorem sums_all {P : Program} {ty : TypeId → Option ATy} {fn : FuncId → Option Func} {ft : FTab} {lt : LTab} (hf : ∀ p ∈ ft, RSum.Sound P ty p.1 p.2) (hl : ∀ p ∈ lt, p.2.OK P (tyCx ty) p.1.2) : SumAll P (mkCx ty fn ft lt) := by
  refine ⟨fun base w0 => ?_, fun base w0 => ltLoops_ok (cx := mkCx ty fn ft lt) rfl (fun p hp vs conds X vs' h1 h2 h3 ds H => ⟨fun {_ _ _ _ _ _ _ _} => (hl p hp vs conds X vs' h1 h2 h3 ds H).ok⟩) base w0⟩
  intro g args H H' v μ w xs hsum hw hr r n
  obtain ⟨s, hs, hsum⟩ := ftSum_one hsum
  exact hf _ hs base w0 hsum hw hr r n
/-- A row of a function, by a run with what was known before. -/
theorem RSum.sound {P : Program} {ty : TypeId → Option ATy} {fn : FuncId → Option Func} {ft : FTab} {lt : LTab} (hcx : CxOK P (mkCx ty fn ft lt)) (hs : SumAll P (mkCx ty fn ft lt)) {g : FuncId} {s : RSum} (h : s.OK (mkCx ty fn ft lt) g) : RSum.Sound P ty g s := by
  intro base w0
  exact ftSums_ok hcx hs (cx' := { ty := ty, fn := fun _ => none, sum := ftSum ty [(g, s)] }) rfl rfl (fun p hp => by
    have : p = (g, s) := by simpa using hp
    subst this; exact h) base w0

/-! ### Runs -/
/-- so many closed tests, and others behind them. -/
def oc (n : Nat) (q : List Ans) : List Ans := Nat.rec (motive := fun _ => List Ans) q (fun _ r => .c :: r) n
def cs (n : Nat) (q : List Ans) : List Ans := Nat.rec (motive := fun _ => List Ans) q (fun _ r => .c :: r) n
/-- what a symbolic run comes to: a part of it, and what it took. -/
def part {α β : Type} (p : α → β) (o : Out α) : Option (β × List Cnd) := Option.rec (motive := fun _ => Option (β × List Cnd)) none (fun r => some (p r.1, r.2.2)) o
theorem part_eq {α β : Type} {p : α → β} {o : Out α} {b : β} {c : List Cnd} (h : part p o = some (b, c)) : ∃ a q, o = some (a, q, c) ∧ p a = b := by
  cases o with
  | none => cases h
  | some r =>
    obtain ⟨a, q, c'⟩ := r
    change some (p a, c') = some (b, c) at h
    injection h with h; injection h with h1 h2; subst h1; subst h2
    exact ⟨a, q, rfl, rfl⟩

/-- a call's value and some of its blocks. -/
def pCallB (ids : List Nat) (r : AV × Heap) : AV × List Blk := (r.1, ids.map r.2.get)
theorem call_run {ty : TypeId → Option ATy} {fn : FuncId → Option Func} {ft : FTab} {lt : LTab} {f : Nat} {t : Tgt} {args : List AV} {H : Heap} {v : AV} {ids : List Nat} {bs : List Blk} {q : List Ans} {c : List Cnd}
    (h : part (pCallB ids) (callS (mkCx ty fn ft lt) (mkS ty ft lt) f t args H q) = some ((v, bs), c)) (hc : HoldsL c) : ∃ h', aCall (mkCx ty fn ft lt) f t args H = some (v, h') ∧ ids.map h'.get = bs := by
  obtain ⟨⟨v', h'⟩, q', h1, h2⟩ := part_eq h
  injection h2 with h2 h3
  subst h2
  exact ⟨h', callS_snd _ (mkS_ok ty fn ft lt) f t args H q _ q' c h1 hc, h3⟩

/-- code: its end, some slots, the heap's next number, some blocks. -/
def pCode (sl ids : List Nat) (r : AX × St) : AX × List AV × List Nat × Nat × List Blk := (r.1, sl.map r.2.fr.get, r.2.ds, r.2.H.next, ids.map r.2.H.get)
theorem code_run {ty : TypeId → Option ATy} {fn : FuncId → Option Func} {ft : FTab} {lt : LTab} {g f : Nat} {k : FuncId} {nn : Nat} {b : Code} {s : St} {X : AX} {sl ids : List Nat} {vs : List AV} {ds : List Nat} {nx : Nat} {bs : List Blk} {q : List Ans} {c : List Cnd}
    (h : part (pCode sl ids) (codeS (mkCx ty fn ft lt) (ltLoopS lt) (callS (mkCx ty fn ft lt) (mkS ty ft lt) g) k none nn f b s q) = some ((X, vs, ds, nx, bs), c)) (hc : HoldsL c) :
    ∃ s1, aCode (mkCx ty fn ft lt) (aCall (mkCx ty fn ft lt) g) k none nn f b s = some (X, s1) ∧ sl.map s1.fr.get = vs ∧ s1.ds = ds ∧ s1.H.next = nx ∧ ids.map s1.H.get = bs := by
  obtain ⟨⟨X', s1⟩, q', h1, h2⟩ := part_eq h
  unfold pCode at h2
  injection h2 with e1 h2; injection h2 with e2 h2; injection h2 with e3 h2; injection h2 with e4 e5
  simp only at e1
  subst e1
  exact ⟨s1, codeS_snd _ (ltLoops_snd rfl) (callS_snd _ (mkS_ok ty fn ft lt) g) k none nn f b s q _ q' c h1 hc, e2, e3, e4, e5⟩

/-- code that leaves the heap. -/
def pPure (sl : List Nat) (r : AX × St) : AX × List AV × List Nat × Heap := (r.1, sl.map r.2.fr.get, r.2.ds, r.2.H)
theorem pure_run {P : Program} {ty : TypeId → Option ATy} {fn : FuncId → Option Func} {ft : FTab} {lt : LTab} (hcx : CxOK P (mkCx ty fn ft lt)) (hs : SumAll P (mkCx ty fn ft lt)) {g f : Nat} {k : FuncId} {nn : Nat} {b : Code} {fr : Fr} {H : Heap} {X : AX} {sl : List Nat} {vs : List AV} {ds : List Nat} {q : List Ans} {c : List Cnd}
    (h : part (pPure sl) (codeS (mkCx ty fn ft lt) (ltLoopS lt) (callS (mkCx ty fn ft lt) (mkS ty ft lt) g) k none nn f b ⟨fr, ds, H⟩ q) = some ((X, vs, ds, H), c)) (hc : HoldsL c) (hr : noRange b = true) (hv : AV.plainL vs = true) :
    CodeOK P (tyCx ty) nn H.next b ⟨fr, ds, H⟩ X ⟨frameOf nn (sl.zip vs), ds, H⟩ := by
  obtain ⟨⟨X', s1⟩, q', h1, h2⟩ := part_eq h
  unfold pPure at h2
  injection h2 with e1 h2; injection h2 with e2 h2; injection h2 with e3 e4
  simp only at e1
  subst e1
  have hrun := codeS_snd _ (ltLoops_snd rfl) (callS_snd _ (mkS_ok ty fn ft lt) g) k none nn f b ⟨fr, ds, H⟩ q _ q' c h1 hc
  have key := CodeOK.pure (cx := mkCx ty fn ft lt) hcx hs hrun hr e3 (fun b _ => by rw [e4]) (sl.zip vs) ?_
  · exact ⟨fun {_ _ _ _ _ _ _ _} => key.ok⟩
  intro p hp
  refine .inr ?_
  obtain ⟨i, hi⟩ := List.getElem?_of_mem hp
  rw [List.getElem?_zip_eq_some] at hi
  obtain ⟨i1, i2⟩ := hi
  refine ⟨?_, .inl ?_⟩
  · rw [← e2, List.getElem?_map, i1] at i2
    simpa using i2
  · have key : ∀ (l : List AV) (i : Nat) (v : AV), AV.plainL l = true → l[i]? = some v → v.plain = true := by
      intro l
      induction l with
      | nil => intro i v _ h; cases h
      | cons a l ih =>
        intro i v hl h
        simp only [AV.plainL, Bool.and_eq_true] at hl
        cases i with
        | zero => simp at h; subst h; exact hl.1
        | succ i => exact ih i v hl.2 (by simpa using h)
    exact key vs i p.2 hv i2

/-- the block of code of a number. -/
def findBlock (id : Nat) : Code → Option Code
  | .seq a b => match findBlock id a with
    | some c => some c
    | none => findBlock id b
  | .cond _ a b => match findBlock id a with
    | some c => some c
    | none => findBlock id b
  | .block id' b => if id = id' then some b else findBlock id b
  | .loop b => findBlock id b
  | .rangeFunc _ _ a b => match findBlock id a with
    | some c => some c
    | none => findBlock id b
  | _ => none
def blockOf (f : Func) (id : Nat) : Code := (f.body.bind (findBlock id)).getD .skip
/-- what a loop goes round. -/
def roundOf (c : Code) : Code :=
  match c with
  | .loop b => b
  | c => c
end Go.Ab
