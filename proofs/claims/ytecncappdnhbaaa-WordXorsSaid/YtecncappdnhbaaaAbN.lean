/- A region that draws its order: what the plan and its run say. -/
import Derived.Test.YtecncappdnhbaaaAbM
set_option autoImplicit false
set_option linter.unusedVariables false
set_option linter.unusedSimpArgs false
set_option linter.unusedSectionVars false
namespace Go.Ab
open Go.RowKit Go.MapKept

/-! ### Sameness that is reckoned -/
mutual
theorem AV.beq_eq : ∀ (a b : AV), AV.beq a b = true → a = b
  | .undef, b, h => by cases b <;> first | rfl | cases h
  | .int k n, b, h => by cases b <;> first | (simp [AV.beq] at h; obtain ⟨rfl, rfl⟩ := h; rfl) | cases h
  | .bool x, b, h => by cases b <;> first | (simp [AV.beq] at h; subst h; rfl) | cases h
  | .str x, b, h => by cases b <;> first | (simp [AV.beq] at h; subst h; rfl) | cases h
  | .ptr x, b, h => by cases b <;> first | (simp [AV.beq] at h; subst h; rfl) | cases h
  | .slice x l c, b, h => by cases b <;> first | (simp [AV.beq] at h; obtain ⟨⟨rfl, rfl⟩, rfl⟩ := h; rfl) | cases h
  | .map x, b, h => by cases b <;> first | (simp [AV.beq] at h; subst h; rfl) | cases h
  | .func f x y, b, h => by
    cases b <;> first
      | (simp [AV.beq] at h; obtain ⟨⟨rfl, h1⟩, h2⟩ := h; rw [AV.beqL_eq _ _ h1, AV.beqL_eq _ _ h2])
      | cases h
  | .yield x, b, h => by cases b <;> first | (simp [AV.beq] at h; subst h; rfl) | cases h
  | .nilFunc, b, h => by cases b <;> first | rfl | cases h
  | .iface t v, b, h => by
    cases b <;> first
      | (simp [AV.beq] at h; obtain ⟨rfl, h1⟩ := h; rw [AV.beq_eq _ _ h1])
      | cases h
  | .nilIface, b, h => by cases b <;> first | rfl | cases h
  | .agg x, b, h => by cases b <;> first | (simp only [AV.beq] at h; rw [AV.beqL_eq _ _ h]) | cases h
  | .tuple x, b, h => by cases b <;> first | (simp only [AV.beq] at h; rw [AV.beqL_eq _ _ h]) | cases h
  | .fsl n l x, b, h => by
    cases b <;> first
      | (simp only [AV.beq, Bool.and_eq_true, beq_iff_eq, decide_eq_true_eq] at h; obtain ⟨⟨rfl, rfl⟩, h2⟩ := h; rw [AV.beqL_eq _ _ h2])
      | cases h
  | .fptr x, b, h => by cases b <;> first | (simp only [AV.beq] at h; rw [AV.beqL_eq _ _ h]) | cases h
  | .any, b, h => by cases b <;> first | rfl | cases h
theorem AV.beqL_eq : ∀ (a b : List AV), AV.beqL a b = true → a = b
  | [], b, h => by cases b <;> first | rfl | cases h
  | x :: xs, b, h => by
    cases b with
    | nil => cases h
    | cons y ys =>
      simp only [AV.beqL, Bool.and_eq_true] at h
      rw [AV.beq_eq _ _ h.1, AV.beqL_eq _ _ h.2]
end

theorem Blk.same_eq {a b : Blk} (h : Blk.same a b = true) : a = b := by
  unfold Blk.same at h
  split at h
  · simp only [Bool.and_eq_true, beq_iff_eq, decide_eq_true_eq] at h
    obtain ⟨⟨⟨rfl, rfl⟩, rfl⟩, h⟩ := h
    rw [AV.beqL_eq _ _ h]
  · rfl
  · cases h

/-! ### An operation looks at its operands alone -/
section congr
variable {g g' : Env}
theorem ev_congr {x : Operand} (h : ∀ t, x = .tmp t → g t = g' t) : ev g x = ev g' x := by
  cases x <;> first | rfl | (simp only [ev]; rw [h _ rfl])
theorem evs_congr {l : List Operand} (h : ∀ x ∈ l, ev g x = ev g' x) : evs g l = evs g' l := by
  induction l with
  | nil => rfl
  | cons x l ih => rw [evs_cons, evs_cons, h x (by simp), ih fun y hy => h y (by simp [hy])]
theorem evParts_congr {l : List (Nat × Operand)} (h : ∀ x ∈ l.map (·.2), ev g x = ev g' x) : evParts g l = evParts g' l := by
  induction l with
  | nil => rfl
  | cons x l ih =>
    obtain ⟨i, x⟩ := x
    simp only [evParts]
    rw [h x (by simp), ih fun y hy => h y (by simp [hy])]
theorem evO_congr {x : Option Operand} (h : ∀ y, x = some y → ev g y = ev g' y) : evO g x = evO g' x := by
  cases x with
  | none => rfl
  | some y => simp only [evO]; rw [h y rfl]

theorem aMade_congr (cx : Cx) {o : Op} (h : ∀ x ∈ o.operands, ev g x = ev g' x) : aMade cx o g = aMade cx o g' := by
  cases o <;> simp only [aMade, mBox, mBuild, mMake, mMap] <;> try rfl
  case box t x => rw [h x (by simp [Op.operands])]
  case buildSlice t n ps => rw [evParts_congr fun x hx => h x (by simpa [Op.operands] using hx)]
  case makeSlice t l c => rw [h l (by simp [Op.operands]), h c (by simp [Op.operands])]
  case convert s d x => rw [h x (by simp [Op.operands])]

theorem call_congr {c : Call} (h : ∀ x ∈ (Op.call c).operands, ev g x = ev g' x) : evs g c.args.toList = evs g' c.args.toList ∧ ∀ f, c.callee = .value f → ev g f = ev g' f := by
  constructor
  · exact evs_congr fun x hx => h x (by simp [Op.operands, Call.operands]; right; simpa using hx)
  · intro f hf
    exact h f (by simp [Op.operands, Call.operands, hf])

theorem aQuiet_congr (cx : Cx) {o : Op} (H : Heap) (h : ∀ x ∈ o.operands, ev g x = ev g' x) : aQuiet cx o g H = aQuiet cx o g' H := by
  cases o <;> simp only [aQuiet, ev2] <;> try rfl
  case move x => rw [h x (by simp [Op.operands])]
  case assign x => rw [h x (by simp [Op.operands])]
  case pick c x y => rw [h c (by simp [Op.operands]), h x (by simp [Op.operands]), h y (by simp [Op.operands])]
  case build t ps => rw [evParts_congr fun x hx => h x (by simpa [Op.operands] using hx)]
  case load t x => rw [h x (by simp [Op.operands])]
  case nilCheck x => rw [h x (by simp [Op.operands])]
  case binOp op t x y z => rw [h x (by simp [Op.operands]), h y (by simp [Op.operands])]
  case unOp op t x => rw [h x (by simp [Op.operands])]
  case convert s d x => rw [h x (by simp [Op.operands])]
  case makeFunc fn first captured =>
    unfold qFunc
    rw [evs_congr (g := g) (l := first.toList) fun x hx => h x (by simp [Op.operands]; left; simpa using hx), evs_congr (g := g) (l := captured.toList) fun x hx => h x (by simp [Op.operands]; right; simpa using hx)]
  case slice t x lo hi mx =>
    unfold qSlice
    rw [h x (by simp [Op.operands]), evO_congr (x := lo) fun y hy => h y (by simp [Op.operands, hy]), evO_congr (x := hi) fun y hy => h y (by simp [Op.operands, hy]), evO_congr (x := mx) fun y hy => h y (by simp [Op.operands, hy])]
  case fieldAddr t x f => rw [h x (by simp [Op.operands])]
  case field t x f => rw [h x (by simp [Op.operands])]
  case indexAddr t x i => rw [h x (by simp [Op.operands]), h i (by simp [Op.operands])]
  case index t x i => rw [h x (by simp [Op.operands]), h i (by simp [Op.operands])]
  case lookup t x i ok => rw [h x (by simp [Op.operands]), h i (by simp [Op.operands])]
  case extract x i => rw [h x (by simp [Op.operands])]
  case call c =>
    unfold qCall
    rw [(call_congr h).1]

theorem aLoud_congr (cx : Cx) (call : Caller) {o : Op} (H : Heap) (h : ∀ x ∈ o.operands, ev g x = ev g' x) : aLoud cx call o g H = aLoud cx call o g' H := by
  cases o <;> simp only [aLoud, lStore, lPut, ev2] <;> try rfl
  case store t x y => rw [h x (by simp [Op.operands]), h y (by simp [Op.operands])]
  case mapUpdate t m k x => rw [h m (by simp [Op.operands]), h k (by simp [Op.operands]), h x (by simp [Op.operands])]
  case insert t m k x => rw [h m (by simp [Op.operands]), h k (by simp [Op.operands]), h x (by simp [Op.operands])]
  case call c =>
    obtain ⟨h1, h2⟩ := call_congr h
    unfold lCall
    split
    · rw [h1]
    · rename_i f hf; rw [h1, h2 f hf]
    · rfl

theorem aOp_congr (cx : Cx) (call : Caller) {o : Op} (H : Heap) (h : ∀ x ∈ o.operands, ev g x = ev g' x) : aOp cx call o g H = aOp cx call o g' H := by
  rw [aOp_eq, aOp_eq]
  unfold aOpK
  rw [aMade_congr cx h, aQuiet_congr cx H h, aLoud_congr cx call H h]

theorem aWanted_congr {ops : List Oper} {o : Oper} (h : ∀ q d, o.guard = some q → (listAt ops q.1).ob (·.dst) = some d → g d = g' d) : aWanted ops g o = aWanted ops g' o := by
  unfold aWanted
  split
  · rfl
  · rename_i q hq
    unfold aGuard
    split
    · rename_i t ht; rw [h q t hq ht]
    · rfl
theorem gknown_congr {ops : List Oper} {o : Oper} (h : ∀ q d, o.guard = some q → (listAt ops q.1).ob (·.dst) = some d → g d = g' d) : gknown ops g o = gknown ops g' o := by
  unfold gknown
  split
  · rfl
  · rename_i q hq
    split
    · rename_i t ht; rw [h q t hq ht]
    · rfl
end congr
end Go.Ab
