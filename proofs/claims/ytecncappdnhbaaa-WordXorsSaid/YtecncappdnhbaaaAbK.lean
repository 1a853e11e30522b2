/- Append; copy. -/
import Derived.Test.YtecncappdnhbaaaAbJ
set_option autoImplicit false
set_option linter.unusedVariables false
set_option linter.unusedSimpArgs false
set_option linter.unusedSectionVars false
namespace Go.Ab
open Go.RowKit Go.MapKept

/-- Where an append takes its new cells from. -/
inductive Src (P : Program) (w : World) (u e : TypeId) (size bytes n : Nat) (z : Value) (X : Value) (new : List Value) : Prop
  | cells (d : TypeDesc) : P.underlying u = some d → (∀ k, d ≠ .int k) → (∀ w', (Builtin.lenOf X).run P w' = .ok n w') →
      (∀ w' : World, w'.heap = w.heap → (Builtin.firstCells size n X).run P w' = .ok new.toArray w') → Src P w u e size bytes n z X new
  | zeros (k k' : IntKind) (m : Int) : P.underlying u = some (.int k) → X = .int k' m → 0 ≤ m → m < 9223372036854775808 → m * bytes ≤ 281474976710656 → n = m.toNat →
      new.toArray = Builtin.zeroCells z.cells n → z.cells.size = size → Src P w u e size bytes n z X new

theorem zeroCells_nil (z : Array Value) : Builtin.zeroCells z 0 = #[] := by simp [Builtin.zeroCells]
theorem zeroCells_size (z : Array Value) (n : Nat) : (Builtin.zeroCells z n).size = n * z.size := by simp [Builtin.zeroCells]

section
variable {P : Program} {w : World} {t u ty e : TypeId} {inf : TypeInfo} {z X : Value} {n : Nat} {new : List Value}

/-- In place. -/
theorem append_in (ht : P.underlying t = some (.slice e)) (hi : P.info? e = some inf) (hz : inf.zero = some z) (hx : Src P w u e inf.size inf.bytes n z X new) (hl : new.length = n * inf.size)
    (b : Addr) (sLen sCap : Nat) (hle : sLen + n ≤ sCap) :
    (Builtin.append_ #[t, u] ty #[.slice (some b) sLen sCap, X]).run P w =
      ((storeCells (b.add (sLen * inf.size)) new).run P w).andThen fun _ w' => .ok (.slice (some b) (sLen + n) sCap) w' := by
  cases hx with
  | cells d hd hk hlen hc =>
    have h1 : (match d with | .int _ => true | _ => false) = false := by cases d <;> first | rfl | exact absurd rfl (hk _)
    simp [Builtin.append_, run_underlying ht, run_underlying hd, sizeOf, typeInfo, hi, h1, hlen, hle, hc w rfl]
  | zeros k k' m hd hX h0 h1 h2 hn hnew hzs =>
    subst hX
    have wl : IntKind.i64.wrap m = m := IntWalk.i64_in _ (by omega)
    have c1 : ¬ (m < 0) := by omega
    have c2 : ¬ ((281474976710656 : Int) < m * inf.bytes) := by omega
    have hz0 : n = 0 → new = [] := fun h => List.eq_nil_of_length_eq_zero (by rw [hl, h]; simp)
    subst hn
    by_cases h3 : m.toNat * inf.size = 0
    · have hnil : new = [] := List.eq_nil_of_length_eq_zero (by rw [hl, h3])
      subst hnil
      simp [Builtin.append_, run_underlying ht, run_underlying hd, sizeOf, typeInfo, hi, asInt, asIntOf, wl, c1, c2, hle, h3]
    · have h4 := h3
      simp only [Nat.mul_eq_zero, not_or] at h4
      simp [Builtin.append_, run_underlying ht, run_underlying hd, sizeOf, typeInfo, zeroValue, hi, hz, asInt, asIntOf, wl, c1, c2, hle, h4, ← hnew]
      intro h; exact absurd h h3

/-- Nothing to nothing. -/
theorem append_none (ht : P.underlying t = some (.slice e)) (hi : P.info? e = some inf) (hz : inf.zero = some z) (hx : Src P w u e inf.size inf.bytes 0 z X new) (hl : new.length = 0) :
    (Builtin.append_ #[t, u] ty #[.slice none 0 0, X]).run P w = .ok (.slice none 0 0) w := by
  have hnil : new = [] := List.eq_nil_of_length_eq_zero hl
  subst hnil
  cases hx with
  | cells d hd hk hlen hc =>
    have h1 : (match d with | .int _ => true | _ => false) = false := by cases d <;> first | rfl | exact absurd rfl (hk _)
    simp [Builtin.append_, run_underlying ht, run_underlying hd, sizeOf, typeInfo, hi, h1, hlen, hc w rfl]
  | zeros k k' m hd hX h0 h1 h2 hn hnew hzs =>
    subst hX
    have hm : m = 0 := by omega
    subst hm
    have wl : IntKind.i64.wrap 0 = 0 := by decide
    simp [wl, Builtin.append_, run_underlying ht, run_underlying hd, sizeOf, typeInfo, hi, asInt, asIntOf]

/-- In a new block. -/
theorem append_out (ht : P.underlying t = some (.slice e)) (hi : P.info? e = some inf) (hz : inf.zero = some z) (hx : Src P w u e inf.size inf.bytes n z X new) (hl : new.length = n * inf.size)
    (hzs : z.cells.size = inf.size) (base : Option Addr) (sLen sCap : Nat) (hgt : sCap < sLen + n) (hroom : (sLen + n) * (2 * inf.bytes + 1) ≤ 140737488355328) (old : List Value)
    (hold : ∀ w' : World, w'.heap = w.heap → (Builtin.firstCells inf.size sLen (.slice base sLen sCap)).run P w' = .ok old.toArray w') :
    ∃ cap rest, sLen + n ≤ cap ∧ rest.length = (cap - (sLen + n)) * inf.size ∧ (Builtin.append_ #[t, u] ty #[.slice base sLen sCap, X]).run P w =
      .ok (.slice (some ⟨w.heap.size, 0, none⟩) (sLen + n) cap) (w.drew.alloc (.cells (old ++ new ++ rest).toArray e)) := by
  have hmul : (sLen + n) * (2 * inf.bytes + 1) = (sLen + n) * inf.bytes * 2 + (sLen + n) := by rw [Nat.mul_add, Nat.mul_one, Nat.mul_comm 2, Nat.mul_assoc]
  have hnext : Builtin.nextslicecap (sLen + n) sCap * inf.bytes ≤ 281474976710656 := growslice_fits hgt (by omega)
  have g1 : ¬ (sLen + n ≤ sCap) := by omega
  have g2 : ¬ (9223372036854775807 < ((sLen : Int) + (n : Int))) := by omega
  have g3 : ¬ (281474976710656 < Builtin.nextslicecap (sLen + n) sCap * inf.bytes) := by omega
  obtain ⟨cap, hcap, hcut⟩ : ∃ cap, sLen + n ≤ cap ∧ (Question.appendCap (sLen + n) sCap e).cut (w.tape w.drawn (.appendCap (sLen + n) sCap e)) = cap := ⟨_, Nat.le_add_right _ _, rfl⟩
  refine ⟨cap, (Builtin.zeroCells z.cells (cap - (sLen + n))).toList, hcap, by simp [zeroCells_size, hzs], ?_⟩
  have ho := hold w.drew rfl
  have harr : old.toArray ++ new.toArray ++ Builtin.zeroCells z.cells (cap - (sLen + n)) = (old ++ new ++ (Builtin.zeroCells z.cells (cap - (sLen + n))).toList).toArray := by
    apply Array.ext'; simp
  cases hx with
  | cells d hd hk hlen hc =>
    have h1 : (match d with | .int _ => true | _ => false) = false := by cases d <;> first | rfl | exact absurd rfl (hk _)
    have hcd := hc w.drew rfl
    rw [← harr]
    simp [Builtin.append_, run_underlying ht, run_underlying hd, sizeOf, typeInfo, zeroValue, hi, hz, h1, hlen, g1, g2, g3, Question.forced, hcut, ho, hcd, newRow]
    congr 2; apply Array.ext'; simp
  | zeros k k' m hd hX h0 h1 h2 hn hnew hzs =>
    subst hX
    have wl : IntKind.i64.wrap m = m := IntWalk.i64_in _ (by omega)
    have c1 : ¬ (m < 0) := by omega
    have c2 : ¬ ((281474976710656 : Int) < m * inf.bytes) := by omega
    subst hn
    have g2' : ¬ (9223372036854775807 < ((sLen : Int) + max m 0)) := by omega
    rw [← harr]
    by_cases h3 : m.toNat * inf.size = 0
    · have hnil : new = [] := List.eq_nil_of_length_eq_zero (by rw [hl, h3])
      subst hnil
      simp [Builtin.append_, run_underlying ht, run_underlying hd, sizeOf, typeInfo, zeroValue, hi, hz, asInt, asIntOf, wl, c1, c2, g1, g2', g3, h3, Question.forced, hcut, ho, newRow]
    · have h4 := h3
      simp only [Nat.mul_eq_zero, not_or] at h4
      simp [Builtin.append_, run_underlying ht, run_underlying hd, sizeOf, typeInfo, zeroValue, hi, hz, asInt, asIntOf, wl, c1, c2, g1, g2', g3, h4, Question.forced, hcut, ho, newRow, ← hnew]
      rw [if_neg h3]; congr 3; apply Array.ext'; simp
end

section
variable {P : Program} {cx : Cx} (hcx : CxOK P cx) {μ : Inj} {base : Nat → Prop} {w0 w : World} {H : Heap} (hw : RelW (szOf cx) base w0 μ H w) {g : Env} {a : Act} (hf : RelF μ g a.tmps)

theorem cell_heap {w w' : World} (h : w'.heap = w.heap) (a : Addr) : w'.cell? a = w.cell? a := by simp [World.cell?, h]

/-- what a slice's value says. -/
theorem rel_slice {p : Nat × Nat} {l : Nat} {c : Option Nat} {X : Value} (h : RelV μ (.slice (some p) l c) X) :
    ∃ i ad k, μ p.1 = some i ∧ X = .slice (some ad) l k ∧ l ≤ k ∧ (k ≠ 0 → ad = ⟨i.blk, i.off + p.2, none⟩) ∧ (∀ c', c = some c' → k = c') ∧ (c = none → p.2 = 0 → k * i.esz ≤ i.m) := by
  cases h with
  | slice h1 h2 h3 => exact ⟨_, _, _, h1, rfl, h2, h3, fun c' e => (by cases e; rfl), fun e => (by cases e)⟩
  | sliceU h1 h2 h3 h4 => exact ⟨_, _, _, h1, rfl, h2, h3, fun c' e => (by cases e), fun _ => h4⟩
theorem rel_slice_none {l : Nat} {c : Option Nat} {X : Value} (h : RelV μ (.slice none l c) X) : X = .slice none 0 0 ∧ l = 0 ∧ c = some 0 := by
  cases h; exact ⟨rfl, rfl, rfl⟩

include hw in
/-- The first cells of a slice. -/
theorem first_run {p : Nat × Nat} {l size : Nat} {c : Option Nat} {X : Value} {cs : List AV} (h : cellsAt H p (l * size) = some cs) (hx : RelV μ (.slice (some p) l c) X) :
    ∃ xs, RelL μ cs xs ∧ xs.length = l * size ∧ ∀ w' : World, w'.heap = w.heap → (Builtin.firstCells size l X).run P w' = .ok xs.toArray w' := by
  obtain ⟨i, ad, k, hi, rfl, hle, had, hc, _⟩ := rel_slice hx
  obtain ⟨xs, hr, hl, hcell⟩ := cells_read hw h hi
  refine ⟨xs, hr, hl, fun w' hw' => ?_⟩
  refine run_firstCells_some (P := P) w' size l ad l k xs hl fun j v hv => ?_
  have hk : k ≠ 0 := by
    intro e
    have : j < xs.length := (List.getElem?_eq_some_iff.1 hv).1
    have h0 : l = 0 := by omega
    rw [hl, h0] at this
    omega
  rw [had hk, addr_add, cell_heap hw']
  exact hcell j v hv

include hcx hw in
theorem src_sound {u e : TypeId} {et : ATy} {zf : Bool} {x : AV} {X z : Value} {nc : Nat × List AV} (hz : RelV μ et.zero z) (hnz : et.zero ≠ .any) (hzl : et.zero.cells.length = et.size) (hu : isIntT cx u = some zf)
    (h : cb zf (zeroCells et x) (srcCells et.size H x) = some nc) (hx : RelV μ x X) :
    ∃ new, RelL μ nc.2 new ∧ new.length = nc.1 * et.size ∧ Src P w u e et.size et.bytes nc.1 z X new := by
  have hzs : z.cells.size = et.size := by have := (hz.cells hnz).length; simp at this; omega
  unfold isIntT at hu
  split at hu
  · rename_i hty
    injection hu with hu; subst hu
    obtain ⟨d, hud, hdd⟩ := (hcx.ty u _ hty).und
    cases d <;> simp only [DescOK] at hdd
    rw [cb_true] at h
    unfold zeroCells at h
    replace h := ob_eq h; obtain ⟨b, hb, h⟩ := h
    split at h
    · rename_i hc
      injection h with h; subst h
      cases int?_eq hb
      have := rel_int hx
      subst this
      refine ⟨(Builtin.zeroCells z.cells b.2.toNat).toList, ?_, by simp [zeroCells_size, hzs], .zeros _ _ _ hud rfl hc.1 hc.2.1 hc.2.2 rfl (by simp) hzs⟩
      exact zeros_rel' (hz.cells hnz) b.2.toNat _ (by rw [hzl, hzs])
    · cases h
  · rename_i ty hni hty
    injection hu with hu; subst hu
    rw [cb_false] at h
    obtain ⟨d, hud, hdd⟩ := (hcx.ty u _ hty).und
    have hk : ∀ k, d ≠ .int k := by
      intro k e
      subst e
      cases hd : ty.desc <;> rw [hd] at hdd <;> simp only [DescOK] at hdd
      obtain ⟨dsc, a1, a2, a3, a4⟩ := ty
      simp only at hd
      subst hd
      exact hni _ _ _ _ _ rfl
    unfold srcCells at h
    split at h
    · rename_i nl len cs
      rw [cb_eq] at h
      split at h
      · rename_i hcl
        rw [nbeq] at hcl
        have hcl : cs.length = len * et.size := of_decide_eq_true hcl
        injection h with h; subst h
        cases hx with
        | fslN => exact ⟨[], .nil, by simp, .cells d hud hk (fun w' => by simp [Builtin.lenOf]) (fun w' _ => by simp [Builtin.firstCells])⟩
        | fsl hz2 hr hv hlc =>
          rename_i c a arr vs
          have hl := hr.length
          refine ⟨vs, hr, by show vs.length = len * et.size; omega, .cells d hud hk (fun w' => by simp [Builtin.lenOf]) (fun w' hw' => ?_)⟩
          exact run_firstCells_some (P := P) w' et.size len a len c vs (by omega) fun j v hv' => by
            rw [cell_heap hw']; exact froz_read hw hz2 hr hv j v hv'
      · cases h
    unfold srcCells0 at h
    rename_i hnf
    clear hnf
    split at h
    · rename_i p l c
      unfold srcSlice at h
      split at h
      · rename_i hp
        simp only at hp
        subst hp
        obtain ⟨rfl, rfl, rfl⟩ := rel_slice_none hx
        simp at h
        subst h
        exact ⟨[], .nil, by simp, .cells d hud hk (fun w' => by simp [Builtin.lenOf]) (fun w' _ => by simp [Builtin.firstCells])⟩
      · rename_i q hp
        simp only at hp
        subst hp
        replace h := ob_eq h; obtain ⟨cs, hcs, h⟩ := h
        injection h with h; subst h
        obtain ⟨xs, hr, hl, hrun⟩ := first_run (P := P) hw hcs hx
        refine ⟨xs, hr, hl, .cells d hud hk (fun w' => ?_) hrun⟩
        obtain ⟨i, ad, k, hi, rfl, _⟩ := rel_slice hx
        simp [Builtin.lenOf]
    · rename_i s
      split at h
      · rename_i h1
        injection h with h; subst h
        have := rel_str hx
        subst this
        have hsz : (ByteArray.mk s.toArray).size = s.length := by simp [ByteArray.size]
        refine ⟨valBytes s, ofBytes_rel s, by simp [valBytes, h1], .cells d hud hk (fun w' => by simp [Builtin.lenOf, hsz]) (fun w' _ => ?_)⟩
        simp [Builtin.firstCells, valBytes]
      · cases h
    · cases h
  · cases hu
end
end Go.Ab
