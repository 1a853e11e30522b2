/- Texts of the abstract machine and of the laws, merged. -/
import Derived.Test.YtecncappdnhbaaaGT
import Derived.Test.YtecncappdnhbaaaG3
set_option autoImplicit false
set_option linter.unusedVariables false
set_option linter.unusedSimpArgs false
set_option linter.unusedSectionVars false
set_option maxRecDepth 100000
section
noncomputable section
namespace Go.Proofs.Ytecncappdnhbaaa
open Go.Ab
abbrev tys := T.get none atys
abbrev fns := T.get none afns
abbrev C0 := mkCx tys fns [] []
theorem all0 : SumAll Try.prog C0 := sums_all (fun _ h => by cases h) (fun _ h => by cases h)
end Go.Proofs.Ytecncappdnhbaaa
end
end

section
section
namespace Go.Ab
end Go.Ab
end
end

section
section
namespace Go.Ab
theorem wrapA_nat (k : IntKind) (m : Nat) (h : m < topK k) : wrapA k (m : Int) = m := by rw [wrapA_eq]; exact wrap_small k m h
theorem orN_nat (k : IntKind) (x y : Nat) (hx : x < topK k) (hy : y < topK k) : orN k (x : Int) (y : Int) = ((x ||| y : Nat) : Int) := by
  have h := iOr_eq k (x : Int) (y : Int)
  unfold iOr at h
  injection h with _ h
  rw [h, BitVec.toNat_or, ofInt_small k x hx, ofInt_small k y hy]
  obtain ⟨j, hj, _⟩ := topK_pow k
  refine wrap_small k _ ?_
  rw [hj] at hx hy ⊢
  exact Nat.or_lt_two_pow hx hy
theorem nat_of {x : Int} (h : ileB 0 x = true) : ∃ y : Nat, x = y := by
  rw [ileB_eq] at h
  exact ⟨x.toNat, by have := of_decide_eq_true h; omega⟩
theorem lt_of {x y : Nat} (h : iltB (x : Int) (y : Int) = true) : x < y := by
  rw [iltB_eq] at h
  have := of_decide_eq_true h; omega
end Go.Ab
end
end

section
noncomputable section
namespace Go.Proofs.Ytecncappdnhbaaa
open Go Go.Ab
end Go.Proofs.Ytecncappdnhbaaa
namespace Go.Ab.M
end Go.Ab.M
namespace Go.Proofs.Ytecncappdnhbaaa
open Go.Ab.M Go.Ab Go
end Go.Proofs.Ytecncappdnhbaaa
end
end

section
noncomputable section
namespace Go.Ab.M
end Go.Ab.M
namespace Go.Proofs.Ytecncappdnhbaaa
open Go.Ab.M Go.Ab Go
abbrev F01 : FTab := [(63, RSum.const (.int .i64 (Int.ofNat 8))), (64, RSum.const (.int .i64 (Int.ofNat 16))), (65, RSum.const (.int .i64 (Int.ofNat 32))), (66, RSum.const (.int .i64 (Int.ofNat 64))), (15, RSum.const (.bool true))]
abbrev C01 := mkCx tys fns F01 []
theorem bits_u8 :
 ∃ h', aCall C0 100 (Tgt.fn 63) [] H0 = some (AV.int IntKind.i64 (Int.ofNat 8), h') ∧ [].map h'.get = [] :=
 call_run (q := (cs 17 [])) (c := []) (by kernel_rfl) trivial
theorem bits_u16 :
 ∃ h', aCall C0 100 (Tgt.fn 64) [] H0 = some (AV.int IntKind.i64 (Int.ofNat 16), h') ∧ [].map h'.get = [] :=
 call_run (q := (cs 33 [])) (c := []) (by kernel_rfl) trivial
theorem bits_u32 :
 ∃ h', aCall C0 100 (Tgt.fn 65) [] H0 = some (AV.int IntKind.i64 (Int.ofNat 32), h') ∧ [].map h'.get = [] :=
 call_run (q := (cs 65 [])) (c := []) (by kernel_rfl) trivial
theorem bits_u64 :
 ∃ h', aCall C0 100 (Tgt.fn 66) [] H0 = some (AV.int IntKind.i64 (Int.ofNat 64), h') ∧ [].map h'.get = [] :=
 call_run (q := (cs 129 [])) (c := []) (by kernel_rfl) trivial
theorem lives01 :
 ∃ h', aCall C0 100 (Tgt.fn 15) [] H0 = some (AV.bool true, h') ∧ [].map h'.get = [] :=
 call_run (q := (cs 80 [])) (c := []) (by kernel_rfl) trivial
theorem f01_ok : ∀ p ∈ F01, RSum.Sound Try.prog tys p.1 p.2 := by
 intro p h
 simp only [F01, List.mem_cons, List.not_mem_nil, or_false] at h
 rcases h with rfl | rfl | rfl | rfl | rfl
 · exact RSum.sound (cx_goes _ _) all0 (RSum.const_ok rfl (let ⟨h', h, _⟩ := bits_u8; ⟨h', h⟩))
 · exact RSum.sound (cx_goes _ _) all0 (RSum.const_ok rfl (let ⟨h', h, _⟩ := bits_u16; ⟨h', h⟩))
 · exact RSum.sound (cx_goes _ _) all0 (RSum.const_ok rfl (let ⟨h', h, _⟩ := bits_u32; ⟨h', h⟩))
 · exact RSum.sound (cx_goes _ _) all0 (RSum.const_ok rfl (let ⟨h', h, _⟩ := bits_u64; ⟨h', h⟩))
 · exact RSum.sound (cx_goes _ _) all0 (RSum.const_ok rfl (let ⟨h', h, _⟩ := lives01; ⟨h', h⟩))
theorem all01 : SumAll Try.prog C01 := sums_all f01_ok (fun _ h => by cases h)
end Go.Proofs.Ytecncappdnhbaaa
end
end

section
noncomputable section
namespace Go.Ab
namespace M
def kept {α : Type} (a : α) : α := Classical.choose (⟨a, rfl⟩ : ∃ x, x = a)
theorem kept_eq {α : Type} (a : α) : kept a = a := Classical.choose_spec (⟨a, rfl⟩ : ∃ x, x = a)
def u8 : AV → Bool
  | .int k n => decide (k = .u8) && ileB 0 n && iltB n 256
  | _ => false
def u8L (l : List AV) : Bool := List.rec (motive := fun _ => Bool) true (fun v _ r => cb (u8 v) r false) l
def byte (v : AV) : UInt8 := UInt8.ofNat v.intOf.toNat
def bytesL (l : List AV) : List UInt8 := l.map byte
def putB (w x : Nat) : List UInt8 := (List.range w).map fun i => UInt8.ofNat (x / 256 ^ (w - 1 - i))
def getN (l : List UInt8) : Nat := l.foldl (fun x b => x * 256 + b.toNat) 0
end M
open M
theorem u8_iff {v : AV} : M.u8 v = true ↔ ∃ b : UInt8, v = .int .u8 b.toNat := by
  constructor
  · intro h
    cases v <;> simp only [M.u8] at h <;> try (cases h; done)
    rename_i k n
    simp only [Bool.and_eq_true, decide_eq_true_eq, ileB_eq, iltB_eq] at h
    obtain ⟨⟨rfl, h1⟩, h2⟩ := h
    refine ⟨UInt8.ofNat n.toNat, ?_⟩
    congr 1
    have : (UInt8.ofNat n.toNat).toNat = n.toNat % 256 := by simp
    rw [this]; omega
  · rintro ⟨b, rfl⟩
    have := b.toNat_lt
    simp only [M.u8, Bool.and_eq_true, decide_eq_true_eq, ileB_eq, iltB_eq]
    refine ⟨⟨trivial, by omega⟩, by omega⟩
theorem u8L_cons (v : AV) (l : List AV) : u8L (v :: l) = (M.u8 v && u8L l) := by
  show cb (M.u8 v) (u8L l) false = _
  cases M.u8 v <;> rfl
theorem ofBytes_cons (b : UInt8) (l : List UInt8) : ofBytes (b :: l) = .int .u8 b.toNat :: ofBytes l := rfl
theorem ofBytes_append (a b : List UInt8) : ofBytes (a ++ b) = ofBytes a ++ ofBytes b := by simp [ofBytes]
theorem ofBytes_length (l : List UInt8) : (ofBytes l).length = l.length := by simp [ofBytes]
theorem u8L_ofBytes (l : List UInt8) : u8L (ofBytes l) = true := by
  induction l with
  | nil => rfl
  | cons b l ih => rw [ofBytes_cons, u8L_cons, ih, Bool.and_true]; exact u8_iff.2 ⟨b, rfl⟩
theorem u8L_iff {cs : List AV} : u8L cs = true ↔ ∃ l, cs = ofBytes l := by
  constructor
  · intro h
    induction cs with
    | nil => exact ⟨[], rfl⟩
    | cons v cs ih =>
      rw [u8L_cons, Bool.and_eq_true] at h
      obtain ⟨b, rfl⟩ := u8_iff.1 h.1
      obtain ⟨l, rfl⟩ := ih h.2
      exact ⟨b :: l, rfl⟩
  · rintro ⟨l, rfl⟩; exact u8L_ofBytes l
theorem byte_int (b : UInt8) : M.byte (.int .u8 b.toNat) = b := by
  show UInt8.ofNat ((b.toNat : Int).toNat) = b
  simp
theorem bytesL_ofBytes (l : List UInt8) : bytesL (ofBytes l) = l := by
  induction l with
  | nil => rfl
  | cons b l ih =>
    show M.byte _ :: bytesL (ofBytes l) = _
    rw [ih, byte_int]
theorem bytesOf_ofBytes (l : List UInt8) : bytesOf (ofBytes l) = some l := by
  induction l with
  | nil => rfl
  | cons b l ih =>
    rw [ofBytes_cons]
    show ((byteOf (.int .u8 b.toNat)).ob fun c => (bytesOf (ofBytes l)).ob fun r => some (c :: r)) = _
    rw [ih]
    show some (UInt8.ofNat ((b.toNat : Int).toNat) :: l) = _
    simp
theorem ofBytes_plain (nf : Bool) (l : List UInt8) : AV.okL nf (fun _ => false) (ofBytes l) = true := by
  induction l with
  | nil => rfl
  | cons b l ih => rw [ofBytes_cons]; simp only [AV.okL, AV.ok, Bool.true_and]; exact ih
theorem ofBytes_plainL (l : List UInt8) : AV.plainL (ofBytes l) = true := by
  induction l with
  | nil => rfl
  | cons b l ih => rw [ofBytes_cons]; simp only [AV.plainL, AV.plain, Bool.true_and]; exact ih
theorem ofBytes_cells (l : List UInt8) : (ofBytes l).all AV.isCell = true := by
  induction l with
  | nil => rfl
  | cons b l ih => rw [ofBytes_cons, List.all_cons, ih]; rfl
theorem ofBytes_take (l : List UInt8) (n : Nat) : (ofBytes l).take n = ofBytes (l.take n) := by simp [ofBytes, List.map_take]
theorem ofBytes_drop (l : List UInt8) (n : Nat) : (ofBytes l).drop n = ofBytes (l.drop n) := by simp [ofBytes, List.map_drop]
theorem rowCut_ofBytes (l : List UInt8) (o n : Nat) : rowCut (ofBytes l) o n = ofBytes ((l.drop o).take n) := by
  unfold rowCut; rw [ofBytes_drop, ofBytes_take]
theorem putB_length (w x : Nat) : (putB w x).length = w := by simp [putB]
theorem getN_append (a : List UInt8) (b : UInt8) : getN (a ++ [b]) = getN a * 256 + b.toNat := by simp [getN]
theorem rev_ind {α : Type} {P : List α → Prop} (h0 : P []) (h : ∀ l a, P l → P (l ++ [a])) (l : List α) : P l := by
  have key : ∀ m : List α, P m.reverse := by
    intro m
    induction m with
    | nil => exact h0
    | cons a m ih => rw [List.reverse_cons]; exact h _ _ ih
  have := key l.reverse
  rwa [List.reverse_reverse] at this
theorem getN_lt (l : List UInt8) : getN l < 256 ^ l.length := by
  induction l using rev_ind with
  | h0 => simp [getN]
  | h l b ih =>
    rw [getN_append, List.length_append, List.length_singleton, Nat.pow_succ]
    have := b.toNat_lt
    have : getN l + 1 ≤ 256 ^ l.length := ih
    calc getN l * 256 + b.toNat < (getN l + 1) * 256 := by omega
      _ ≤ 256 ^ l.length * 256 := Nat.mul_le_mul_right _ this
theorem putB_succ (w x : Nat) : putB (w + 1) x = putB w (x / 256) ++ [UInt8.ofNat x] := by
  unfold putB
  rw [List.range_succ, List.map_append]
  congr 1
  · apply List.map_congr_left
    intro i hi
    have hi : i < w := List.mem_range.1 hi
    congr 1
    rw [show w + 1 - 1 - i = (w - 1 - i) + 1 by omega, Nat.pow_succ, Nat.mul_comm, Nat.div_div_eq_div_mul]
  · simp
theorem getN_putB (w x : Nat) (h : x < 256 ^ w) : getN (putB w x) = x := by
  induction w generalizing x with
  | zero => simp at h; subst h; rfl
  | succ w ih =>
    rw [putB_succ, getN_append, ih (x / 256) (by rw [Nat.pow_succ] at h; omega)]
    have : (UInt8.ofNat x).toNat = x % 256 := by simp
    rw [this]; omega
end Go.Ab
end
end

section
noncomputable section
namespace Go.Ab
theorem shr_byte (x j : Nat) : wrapA .u8 (shrN (x : Int) (8 * j)) = ((UInt8.ofNat (x / 256 ^ j)).toNat : Int) := by
 have e : shrN (x : Int) (8 * j) = ((x / 2 ^ (8 * j) : Nat) : Int) := rfl
 rw [e, wrapA_eq]
 simp only [IntKind.wrap, IntKind.signed, IntKind.bits, Bool.false_and, Bool.false_eq_true, if_false]
 have h : (UInt8.ofNat (x / 256 ^ j)).toNat = x / 256 ^ j % 256 := by simp
 have h2 : (2 : Nat) ^ (8 * j) = 256 ^ j := by rw [Nat.pow_mul]
 rw [h, h2]; simp
theorem room_of {len k : Nat} (h : len ≤ 1099511627776) (hk : k ≤ 1099511627776) : appRoom 1 len k = true := by
 unfold appRoom; exact decide_eq_true (by omega)
theorem beq_of {a b : Nat} (h : a = b) : Nat.beq a b = true := by rw [nbeq]; exact decide_eq_true h
theorem beq_of1 {a b : Nat} (h : a = b) : Nat.beq a (Nat.mul b 1) = true := by rw [nbeq]; exact decide_eq_true (by show a = b * 1; omega)
theorem ble_of {a b : Nat} (h : a ≤ b) : Nat.ble a b = true := by rw [nble]; exact decide_eq_true h
theorem eq_of_beq' {a b : Nat} (h : Nat.beq a b = true) : a = b := Nat.eq_of_beq_eq_true h
theorem le_of_ble' {a b : Nat} (h : Nat.ble a b = true) : a ≤ b := Nat.le_of_ble_eq_true h
end Go.Ab
namespace Go.Proofs.Ytecncappdnhbaaa
open Go.Ab.M Go.Ab Go
def cloneR : RSum := RSum.nb true fun us => match us with
 | [.fsl true 0 []] => some ([], fun _ => .slice none 0 (some 0), [])
 | [.fsl false len cs] => some ([Nat.beq cs.length len, u8L cs, Nat.ble len 1099511627776], fun n => .slice (some (n, 0)) len none, [.cells true 5 len cs])
 | _ => none
abbrev F03a : FTab := [(67, cloneR)] ++ F01
abbrev C03a := mkCx tys fns F03a []
theorem cloneN :
 ∃ h', aCall C0 60 (Tgt.fn 67) [.fsl true 0 []] H0 = some (AV.slice none 0 (some 0), h') ∧ [].map h'.get = [] :=
 call_run (q := qNs [3]) (c := ([])) (by kernel_rfl) trivial
theorem clone0 (len : Nat) (cs : List AV) (h0 : (cs.length.beq (len.mul 1)) = true) (h1 : (len.beq 0) = true) :
 ∃ h', aCall C0 60 (Tgt.fn 67) [.fsl false len cs] H0 = some (AV.slice (some (0, 0)) 0 (some 0), h') ∧ [0].map h'.get = [.cells true 5 0 []] :=
 call_run (q := qNs [4,0,0]) (c := (cnT :: cnT :: [])) (by kernel_rfl) ⟨h0, h1, trivial⟩
theorem clone1 (len : Nat) (cs : List AV) (h0 : (cs.length.beq (len.mul 1)) = true) (h1 : (len.beq 0) = false) (h2 : (appRoom 1 0 len) = true) (h3 : (Nat.ble 1 (0 + len)) = true) :
 ∃ h', aCall C0 60 (Tgt.fn 67) [.fsl false len cs] H0 = some (AV.slice (some (1, 0)) (0 + len) none, h') ∧ [1].map h'.get = [.cells true 5 ([] ++ cs).length ([] ++ cs)] :=
 call_run (q := qNs [4,0,1,0,0,3]) (c := (cnT :: cnF :: cnT :: cnT :: [])) (by kernel_rfl) ⟨h0, h1, h2, h3, trivial⟩
theorem cloneR_ok : RSum.Sound Try.prog tys 67 cloneR := by
 refine RSum.sound (cx_goes _ _) all0 (RSum.nb_ok fun us c v bs hm hc => ?_)
 split at hm
 · injection hm with hm; injection hm with e1 hm; injection hm with e2 e3; subst e1; subst e2; subst e3
   obtain ⟨h', h, _⟩ := cloneN
   exact ⟨(fun b hb => by cases hb), 60, h', [], _, h, rfl, (fun l l' j e => by cases e), rfl, fun n ρ hρ => AV.Le.refl _⟩
 · rename_i len cs
   injection hm with hm; injection hm with e1 hm; injection hm with e2 e3; subst e1; subst e2; subst e3
   simp only [allTrue_cons] at hc
   obtain ⟨c1, c2, c3, _⟩ := hc
   have c1 := eq_of_beq' c1
   have c3 := le_of_ble' c3
   obtain ⟨l, rfl⟩ := u8L_iff.1 c2
   refine ⟨fun b hb => ?_, ?_⟩
   · have : b = .cells true 5 len (ofBytes l) := by simpa using hb
     subst this
     simp only [Blk.plainOwn, ofBytes_plain, Bool.and_self]
   · by_cases h0 : len = 0
     · obtain ⟨h', h, hb⟩ := clone0 len (ofBytes l) (beq_of1 c1) (beq_of h0)
       refine ⟨60, h', [0], _, h, ?_, sel_one 0, rfl, fun n ρ hρ => ?_⟩
       · rw [hb, h0]
         have : ofBytes l = [] := List.eq_nil_of_length_eq_zero (by omega)
         rw [this]
       · have := hρ 0 0 rfl
         simp only [AV.ren, Option.map_some, this, Nat.add_zero, h0]
         exact AV.Le.empty n
     · obtain ⟨h', h, hb⟩ := clone1 len (ofBytes l) (beq_of1 c1) (by rw [nbeq]; exact decide_eq_false h0) (room_of (by omega) c3) (ble_of (by omega))
       refine ⟨60, h', [1], _, h, ?_, sel_one 1, rfl, fun n ρ hρ => ?_⟩
       · rw [hb, List.nil_append, c1]
       · have := hρ 0 1 rfl
         simp only [AV.ren, Option.map_some, this, Nat.add_zero, Nat.zero_add]
         exact AV.Le.refl _
 · cases hm
theorem f03a_ok : ∀ p ∈ F03a, RSum.Sound Try.prog tys p.1 p.2 := by
 intro p h
 rcases List.mem_cons.1 h with rfl | h
 · exact cloneR_ok
 · exact f01_ok p h
theorem all03a : SumAll Try.prog C03a := sums_all f03a_ok (fun _ h => by cases h)
theorem putu32N (x : Int) :
 ∃ h', aCall C03a 60 (Tgt.fn 78) [.fsl true 0 [], .int .u32 x] H0 = some (AV.slice (some (7, 0)) 4 none, h') ∧ [7].map h'.get = [.cells true 5 4 [.int .u8 (wrapA IntKind.u8 (shrN x 24)), .int .u8 (wrapA IntKind.u8 (shrN x 16)), .int .u8 (wrapA IntKind.u8 (shrN x 8)), .int .u8 (wrapA IntKind.u8 (shrN x 0))]] :=
 call_run (q := qNs [42]) (c := ([])) (by kernel_rfl) trivial
theorem putu32 (x : Int) (len : Nat) (cs : List AV) (h0 : (AV.plainL cs) = true) (h1 : (cs.length.beq len) = true) (h2 : (u8L cs) = true) (h3 : (len.ble 1099511627776) = true) (h4 : (appRoom 1 len 1) = true) (h5 : (len.beq (len * 1)) = true) (h6 : (appRoom 1 (len + 1) 1) = true) (h7 : ((cs ++ [AV.int IntKind.u8 (wrapA IntKind.u8 (shrN x 24))]).length.beq ((len + 1) * 1)) = true) (h8 : (appRoom 1 (len + 1 + 1) 1) = true) (h9 : ((cs ++ [AV.int IntKind.u8 (wrapA IntKind.u8 (shrN x 24))] ++ [AV.int IntKind.u8 (wrapA IntKind.u8 (shrN x 16))]).length.beq ((len + 1 + 1) * 1)) = true) (h10 : (appRoom 1 (len + 1 + 1 + 1) 1) = true) (h11 : ((cs ++ [AV.int IntKind.u8 (wrapA IntKind.u8 (shrN x 24))] ++ [AV.int IntKind.u8 (wrapA IntKind.u8 (shrN x 16))] ++ [AV.int IntKind.u8 (wrapA IntKind.u8 (shrN x 8))]).length.beq ((len + 1 + 1 + 1) * 1)) = true) :
 ∃ h', aCall C03a 60 (Tgt.fn 78) [.fsl false len cs, .int .u32 x] H0 = some (AV.slice (some (8, 0)) (len + 1 + 1 + 1 + 1) none, h') ∧ [8].map h'.get = [.cells true 5 (cs ++ [AV.int IntKind.u8 (wrapA IntKind.u8 (shrN x 24))] ++ [AV.int IntKind.u8 (wrapA IntKind.u8 (shrN x 16))] ++ [AV.int IntKind.u8 (wrapA IntKind.u8 (shrN x 8))] ++ [AV.int IntKind.u8 (wrapA IntKind.u8 (shrN x 0))]).length (cs ++ [AV.int IntKind.u8 (wrapA IntKind.u8 (shrN x 24))] ++ [AV.int IntKind.u8 (wrapA IntKind.u8 (shrN x 16))] ++ [AV.int IntKind.u8 (wrapA IntKind.u8 (shrN x 8))] ++ [AV.int IntKind.u8 (wrapA IntKind.u8 (shrN x 0))])] :=
 call_run (q := qNs [0,0,0,0,9,0,0,10,0,0,10,0,0,10,0,0,4]) (c := (cnT :: cnT :: cnT :: cnT :: cnT :: cnT :: cnT :: cnT :: cnT :: cnT :: cnT :: cnT :: [])) (by kernel_rfl) ⟨h0, h1, h2, h3, h4, h5, h6, h7, h8, h9, h10, h11, trivial⟩
theorem cells_u32 (x : Nat) (hx : x < 4294967296) : [AV.int .u8 (wrapA .u8 (shrN (x : Int) 24)), AV.int .u8 (wrapA .u8 (shrN (x : Int) 16)), AV.int .u8 (wrapA .u8 (shrN (x : Int) 8)), AV.int .u8 (wrapA .u8 (shrN (x : Int) 0))] = ofBytes (putB 4 x) := by
 have h : ofBytes (putB 4 x) = [.int .u8 ((UInt8.ofNat (x / 256 ^ 3)).toNat : Int), .int .u8 ((UInt8.ofNat (x / 256 ^ 2)).toNat : Int), .int .u8 ((UInt8.ofNat (x / 256 ^ 1)).toNat : Int), .int .u8 ((UInt8.ofNat (x / 256 ^ 0)).toNat : Int)] := rfl
 rw [h]
 have s : ∀ j, wrapA .u8 (shrN (x : Int) (8 * j)) = ((UInt8.ofNat (x / 256 ^ j)).toNat : Int) := shr_byte x
 have s0 := s 0
 have s1 := s 1
 have s2 := s 2
 have s3 := s 3
 simp only [← s0, ← s1, ← s2, ← s3]
def putRu32 : RSum := RSum.nb true fun us => match us with
 | [.fsl true 0 [], .int .u32 x] => some ([ileB 0 x, iltB x 4294967296], fun n => .slice (some (n, 0)) 4 none, [.cells true 5 4 (kept (ofBytes (putB 4 x.toNat)))])
 | [.fsl false len cs, .int .u32 x] => some ([Nat.beq cs.length len, u8L cs, Nat.ble len 1000000000000, ileB 0 x, iltB x 4294967296], fun n => .slice (some (n, 0)) (len + 4) none, [.cells true 5 (len + 4) (cs ++ kept (ofBytes (putB 4 x.toNat)))])
 | _ => none
theorem putRu32_ok : RSum.Sound Try.prog tys 78 putRu32 := by
 refine RSum.sound (cx_goes _ _) all03a (RSum.nb_ok fun us c v bs hm hc => ?_)
 split at hm
 · injection hm with hm; injection hm with e1 hm; injection hm with e2 e3; rw [kept_eq] at e3; subst e1; subst e2; subst e3
   simp only [allTrue_cons] at hc
   obtain ⟨c1, c2, _⟩ := hc
   obtain ⟨x, rfl⟩ := nat_of c1
   have c2 : x < 4294967296 := lt_of c2
   obtain ⟨h', h, hb⟩ := putu32N x
   refine ⟨fun b hb => ?_, 60, h', [7], _, h, ?_, sel_one 7, rfl, fun n ρ hρ => ?_⟩
   · have : b = .cells true 5 4 (ofBytes (putB 4 x)) := by simpa using hb
     subst this
     simp only [Blk.plainOwn, ofBytes_plain, Bool.and_self]
   · rw [hb, cells_u32 x c2]; rfl
   · have := hρ 0 7 rfl
     simp only [AV.ren, Option.map_some, this, Nat.add_zero]
     exact AV.Le.refl _
 · rename_i len cs x
   injection hm with hm; injection hm with e1 hm; injection hm with e2 e3; rw [kept_eq] at e3; subst e1; subst e2; subst e3
   simp only [allTrue_cons] at hc
   obtain ⟨c1, c2, c3, c4, c5, _⟩ := hc
   have c1 := eq_of_beq' c1
   have c3 := le_of_ble' c3
   obtain ⟨l, rfl⟩ := u8L_iff.1 c2
   obtain ⟨x, rfl⟩ := nat_of c4
   have c5 : x < 4294967296 := lt_of c5
   obtain ⟨h', h, hb⟩ := putu32 x len (ofBytes l) (ofBytes_plainL l) (beq_of c1) c2 (ble_of (by omega)) (room_of (by omega) (by omega)) (beq_of (by simp only [ofBytes_length, List.length_append, List.length_cons, List.length_nil] at c1 ⊢; omega)) (room_of (by omega) (by omega)) (beq_of (by simp only [ofBytes_length, List.length_append, List.length_cons, List.length_nil] at c1 ⊢; omega)) (room_of (by omega) (by omega)) (beq_of (by simp only [ofBytes_length, List.length_append, List.length_cons, List.length_nil] at c1 ⊢; omega)) (room_of (by omega) (by omega)) (beq_of (by simp only [ofBytes_length, List.length_append, List.length_cons, List.length_nil] at c1 ⊢; omega))
   refine ⟨fun b hb => ?_, 60, h', [8], _, h, ?_, sel_one 8, rfl, fun n ρ hρ => ?_⟩
   · have : b = .cells true 5 (len + 4) (ofBytes l ++ ofBytes (putB 4 x)) := by simpa using hb
     subst this
     rw [← ofBytes_append]
     simp only [Blk.plainOwn, ofBytes_plain, Bool.and_self]
   · rw [hb]
     try simp only [List.append_assoc, List.cons_append, List.nil_append]
     rw [cells_u32 x c5, List.length_append, c1, ofBytes_length, putB_length]; rfl
   · have := hρ 0 8 rfl
     simp only [AV.ren, Option.map_some, this, Nat.add_zero]
     exact AV.Le.refl _
 · cases hm
end Go.Proofs.Ytecncappdnhbaaa
end
end

section
noncomputable section
namespace Go.Ab
namespace M
def getI (w : Nat) (cs : List AV) : Int := kept (if w ≤ cs.length then ((getN ((bytesL cs).take w) : Nat) : Int) else 0)
end M
open M
theorem getI_ofBytes (w : Nat) (l : List UInt8) : getI w (ofBytes l) = if w ≤ l.length then ((getN (l.take w) : Nat) : Int) else 0 := by
 unfold getI; rw [kept_eq, ofBytes_length, bytesL_ofBytes]
theorem or_first (b : UInt8) : orN .u64 (Int.ofNat 0) (wrapA .u64 (Int.ofNat b.toNat)) = ((b.toNat : Nat) : Int) := by
 have hb := b.toNat_lt
 have e : wrapA .u64 (Int.ofNat b.toNat) = ((b.toNat : Nat) : Int) := wrapA_nat .u64 _ (by show _ < 18446744073709551616; omega)
 rw [e]
 have := orN_nat .u64 0 b.toNat (by decide) (by show _ < 18446744073709551616; omega)
 rw [Nat.zero_or] at this
 exact this
theorem or_step (a : Nat) (b : UInt8) (h : a < 72057594037927936) : orN .u64 (shlN .u64 (a : Int) 8) (wrapA .u64 (Int.ofNat b.toNat)) = ((a * 256 + b.toNat : Nat) : Int) := by
 have hb := b.toNat_lt
 have e : wrapA .u64 (Int.ofNat b.toNat) = ((b.toNat : Nat) : Int) := wrapA_nat .u64 _ (by show _ < 18446744073709551616; omega)
 have e2 : shlN .u64 (a : Int) 8 = ((a * 256 : Nat) : Int) := by
  rw [shlN_eq]
  have : (a : Int) * 2 ^ 8 = ((a * 256 : Nat) : Int) := by simp
  rw [this]; exact wrap_small .u64 _ (by show _ < 18446744073709551616; omega)
 rw [e, e2, orN_nat .u64 _ _ (by show _ < 18446744073709551616; omega) (by show _ < 18446744073709551616; omega)]
 congr 1
 have := Nat.shiftLeft_add_eq_or_of_lt (i := 8) (b := b.toNat) (by omega) a
 rw [Nat.shiftLeft_eq] at this
 exact this.symm
theorem div_step (y : Nat) (h : y < 18446744073709551616) : wrapA .u64 ((y : Int).tdiv (Int.ofNat 256)) = ((y / 256 : Nat) : Int) := by
 have e : (y : Int).tdiv (Int.ofNat 256) = ((y / 256 : Nat) : Int) := rfl
 rw [e]; exact wrapA_nat .u64 _ (by show _ < 18446744073709551616; omega)
theorem low_byte (y : Nat) : wrapA .u8 ((y : Int).tmod (Int.ofNat 256)) = ((UInt8.ofNat y).toNat : Int) := by
 have e : (y : Int).tmod (Int.ofNat 256) = ((y % 256 : Nat) : Int) := rfl
 have h : (UInt8.ofNat y).toNat = y % 256 := by simp
 rw [e, h]; exact wrapA_nat .u8 _ (Nat.mod_lt _ (by decide))
end Go.Ab
namespace Go.Proofs.Ytecncappdnhbaaa
open Go.Ab.M Go.Ab Go
theorem getu32A (nl : Bool) (len : Nat) (l : List UInt8) (h0 : (iltB (Int.ofNat len) (Int.ofNat 4)) = true) :
 ∃ h', aCall C01 60 (Tgt.fn 79) [.fsl nl len (ofBytes l)] H0 = some (AV.tuple [.int .u32 (Int.ofNat 0), .bool false], h') ∧ [].map h'.get = [] :=
 call_run (q := qNs [3,0]) (c := (cnT :: [])) (by kernel_rfl) ⟨h0, trivial⟩
theorem getu32B (nl : Bool) (len : Nat) (b0 : UInt8) (b1 : UInt8) (b2 : UInt8) (b3 : UInt8) (cs : List AV) (h0 : (iltB (Int.ofNat len) (Int.ofNat 4)) = false) (h1 : ((AV.int IntKind.u8 (Int.ofNat b0.toNat) :: AV.int IntKind.u8 (Int.ofNat b1.toNat) :: AV.int IntKind.u8 (Int.ofNat b2.toNat) :: AV.int IntKind.u8 (Int.ofNat b3.toNat) :: cs).length.beq (len.mul 1)) = true) (h2 : (Nat.ble 4 len) = true) :
 ∃ h', aCall C01 60 (Tgt.fn 79) [.fsl nl len (AV.int IntKind.u8 (Int.ofNat b0.toNat) :: AV.int IntKind.u8 (Int.ofNat b1.toNat) :: AV.int IntKind.u8 (Int.ofNat b2.toNat) :: AV.int IntKind.u8 (Int.ofNat b3.toNat) :: cs)] H0 = some (AV.tuple [.int .u32 (wrapA IntKind.u32 (orN IntKind.u64 (shlN IntKind.u64 (orN IntKind.u64 (shlN IntKind.u64 (orN IntKind.u64 (shlN IntKind.u64 (orN IntKind.u64 (Int.ofNat 0) (wrapA IntKind.u64 (AV.int IntKind.u8 (Int.ofNat b0.toNat)).intOf)) 8) (wrapA IntKind.u64 (AV.int IntKind.u8 (Int.ofNat b1.toNat)).intOf)) 8) (wrapA IntKind.u64 (AV.int IntKind.u8 (Int.ofNat b2.toNat)).intOf)) 8) (wrapA IntKind.u64 (AV.int IntKind.u8 (Int.ofNat b3.toNat)).intOf))), .bool true], h') ∧ [].map h'.get = [] :=
 call_run (q := qNs [3,1,0,3,0,31]) (c := (cnF :: cnT :: cnT :: [])) (by kernel_rfl) ⟨h0, h1, h2, trivial⟩
def getRu32 : RSum := RSum.pl true fun us => match us with
 | [.fsl nl len cs] => some ([Nat.beq cs.length len, u8L cs], .tuple [.int .u32 (getI 4 cs), .bool (Nat.ble 4 len)])
 | _ => none
theorem getRu32_ok : RSum.Sound Try.prog tys 79 getRu32 := by
 refine RSum.sound (cx_goes _ _) all01 (RSum.pl_ok fun us c v hm hc => ?_)
 split at hm
 · rename_i nl len cs
   injection hm with hm; injection hm with e1 e2; subst e1; subst e2
   simp only [allTrue_cons] at hc
   obtain ⟨c1, c2, _⟩ := hc
   have c1 := eq_of_beq' c1
   obtain ⟨l, rfl⟩ := u8L_iff.1 c2
   rw [ofBytes_length] at c1
   refine ⟨rfl, 60, ?_⟩
   rw [getI_ofBytes]
   by_cases hl : 4 ≤ l.length
   · rw [if_pos hl, ble_of (by omega)]
     have hil : iltB (Int.ofNat len) (Int.ofNat 4) = false := by rw [iltB_eq]; exact decide_eq_false (by show ¬ (len : Int) < ((4 : Nat) : Int); omega)
     rcases l with _ | ⟨b0, l⟩
     · simp at hl; try omega
     rcases l with _ | ⟨b1, l⟩
     · simp at hl; try omega
     rcases l with _ | ⟨b2, l⟩
     · simp at hl; try omega
     rcases l with _ | ⟨b3, l⟩
     · simp at hl; try omega
     obtain ⟨h', h, _⟩ := getu32B nl len b0 b1 b2 b3 (ofBytes l) hil (beq_of1 (by simp only [List.length_cons, ofBytes_length] at c1 ⊢; omega)) (ble_of (by simp only [List.length_cons] at c1; omega))
     have q0 := b0.toNat_lt; have q1 := b1.toNat_lt; have q2 := b2.toNat_lt; have q3 := b3.toNat_lt;
     refine ⟨h', ?_⟩
     refine Eq.trans h ?_
     simp only [AV.intOf]
     rw [or_first b0, or_step (b0.toNat) b1 (by omega), or_step ((b0.toNat * 256 + b1.toNat)) b2 (by omega), or_step (((b0.toNat * 256 + b1.toNat) * 256 + b2.toNat)) b3 (by omega), wrapA_nat .u32 _ (by show _ < 4294967296; omega)]
     have hg : getN (List.take 4 (b0 :: b1 :: b2 :: b3 :: l)) = (((b0.toNat * 256 + b1.toNat) * 256 + b2.toNat) * 256 + b3.toNat) := by simp [getN]
     rw [hg]
   · rw [if_neg hl]
     obtain ⟨h', h, _⟩ := getu32A nl len (ofBytes l |> fun _ => l) (by rw [iltB_eq]; exact decide_eq_true (by show (len : Int) < ((4 : Nat) : Int); omega))
     have : Nat.ble 4 len = false := by rw [nble]; exact decide_eq_false (by omega)
     rw [this]; exact ⟨h', h⟩
 · cases hm
def isW (w : Nat) : Bool := Nat.beq w 1 || Nat.beq w 2 || Nat.beq w 4 || Nat.beq w 8
theorem isW_cases {w : Nat} (h : isW w = true) : w = 1 ∨ w = 2 ∨ w = 4 ∨ w = 8 := by
 simp only [isW, nbeq, Bool.or_eq_true, decide_eq_true_eq] at h; omega
theorem rput1 (x : Int) :
 ∃ h', aCall C01 60 (Tgt.fn 49) [.int .u64 x, .int .i64 (Int.ofNat 1)] H0 = some (AV.slice (some (0, 0)) 1 (some 1), h') ∧ [0].map h'.get = [.cells true 5 1 [.int .u8 (wrapA IntKind.u8 (x.tmod (Int.ofNat 256)))]] :=
 call_run (q := qNs [15]) (c := ([])) (by kernel_rfl) trivial
theorem rput2 (x : Int) :
 ∃ h', aCall C01 60 (Tgt.fn 49) [.int .u64 x, .int .i64 (Int.ofNat 2)] H0 = some (AV.slice (some (0, 0)) 2 (some 2), h') ∧ [0].map h'.get = [.cells true 5 2 [.int .u8 (wrapA IntKind.u8 ((wrapA IntKind.u64 (x.tdiv (Int.ofNat 256))).tmod (Int.ofNat 256))), .int .u8 (wrapA IntKind.u8 (x.tmod (Int.ofNat 256)))]] :=
 call_run (q := qNs [23]) (c := ([])) (by kernel_rfl) trivial
theorem rput4 (x : Int) :
 ∃ h', aCall C01 60 (Tgt.fn 49) [.int .u64 x, .int .i64 (Int.ofNat 4)] H0 = some (AV.slice (some (0, 0)) 4 (some 4), h') ∧ [0].map h'.get = [.cells true 5 4 [.int .u8 (wrapA IntKind.u8 ((wrapA IntKind.u64 ((wrapA IntKind.u64 ((wrapA IntKind.u64 (x.tdiv (Int.ofNat 256))).tdiv (Int.ofNat 256))).tdiv (Int.ofNat 256))).tmod (Int.ofNat 256))), .int .u8 (wrapA IntKind.u8 ((wrapA IntKind.u64 ((wrapA IntKind.u64 (x.tdiv (Int.ofNat 256))).tdiv (Int.ofNat 256))).tmod (Int.ofNat 256))), .int .u8 (wrapA IntKind.u8 ((wrapA IntKind.u64 (x.tdiv (Int.ofNat 256))).tmod (Int.ofNat 256))), .int .u8 (wrapA IntKind.u8 (x.tmod (Int.ofNat 256)))]] :=
 call_run (q := qNs [39]) (c := ([])) (by kernel_rfl) trivial
theorem rput8 (x : Int) :
 ∃ h', aCall C01 60 (Tgt.fn 49) [.int .u64 x, .int .i64 (Int.ofNat 8)] H0 = some (AV.slice (some (0, 0)) 8 (some 8), h') ∧ [0].map h'.get = [.cells true 5 8 [.int .u8 (wrapA IntKind.u8 ((wrapA IntKind.u64 ((wrapA IntKind.u64 ((wrapA IntKind.u64 ((wrapA IntKind.u64 ((wrapA IntKind.u64 ((wrapA IntKind.u64 ((wrapA IntKind.u64 (x.tdiv (Int.ofNat 256))).tdiv (Int.ofNat 256))).tdiv (Int.ofNat 256))).tdiv (Int.ofNat 256))).tdiv (Int.ofNat 256))).tdiv (Int.ofNat 256))).tdiv (Int.ofNat 256))).tmod (Int.ofNat 256))), .int .u8 (wrapA IntKind.u8 ((wrapA IntKind.u64 ((wrapA IntKind.u64 ((wrapA IntKind.u64 ((wrapA IntKind.u64 ((wrapA IntKind.u64 ((wrapA IntKind.u64 (x.tdiv (Int.ofNat 256))).tdiv (Int.ofNat 256))).tdiv (Int.ofNat 256))).tdiv (Int.ofNat 256))).tdiv (Int.ofNat 256))).tdiv (Int.ofNat 256))).tmod (Int.ofNat 256))), .int .u8 (wrapA IntKind.u8 ((wrapA IntKind.u64 ((wrapA IntKind.u64 ((wrapA IntKind.u64 ((wrapA IntKind.u64 ((wrapA IntKind.u64 (x.tdiv (Int.ofNat 256))).tdiv (Int.ofNat 256))).tdiv (Int.ofNat 256))).tdiv (Int.ofNat 256))).tdiv (Int.ofNat 256))).tmod (Int.ofNat 256))), .int .u8 (wrapA IntKind.u8 ((wrapA IntKind.u64 ((wrapA IntKind.u64 ((wrapA IntKind.u64 ((wrapA IntKind.u64 (x.tdiv (Int.ofNat 256))).tdiv (Int.ofNat 256))).tdiv (Int.ofNat 256))).tdiv (Int.ofNat 256))).tmod (Int.ofNat 256))), .int .u8 (wrapA IntKind.u8 ((wrapA IntKind.u64 ((wrapA IntKind.u64 ((wrapA IntKind.u64 (x.tdiv (Int.ofNat 256))).tdiv (Int.ofNat 256))).tdiv (Int.ofNat 256))).tmod (Int.ofNat 256))), .int .u8 (wrapA IntKind.u8 ((wrapA IntKind.u64 ((wrapA IntKind.u64 (x.tdiv (Int.ofNat 256))).tdiv (Int.ofNat 256))).tmod (Int.ofNat 256))), .int .u8 (wrapA IntKind.u8 ((wrapA IntKind.u64 (x.tdiv (Int.ofNat 256))).tmod (Int.ofNat 256))), .int .u8 (wrapA IntKind.u8 (x.tmod (Int.ofNat 256)))]] :=
 call_run (q := qNs [71]) (c := ([])) (by kernel_rfl) trivial
theorem rcells1 (x : Nat) (hx : x < 18446744073709551616) : [AV.int .u8 (wrapA .u8 ((x : Int).tmod (Int.ofNat 256)))] = ofBytes (putB 1 x) := by
 have h : ofBytes (putB 1 x) = [.int .u8 ((UInt8.ofNat (x / 256 ^ 0)).toNat : Int)] := rfl
 have e0 : (x : Int) = ((x / 256 ^ 0 : Nat) : Int) := by simp
 rw [h, e0]
 try simp only [low_byte]
 try simp only [low_byte]
theorem rcells2 (x : Nat) (hx : x < 18446744073709551616) : [AV.int .u8 (wrapA .u8 ((wrapA .u64 ((x : Int).tdiv (Int.ofNat 256))).tmod (Int.ofNat 256))), AV.int .u8 (wrapA .u8 ((x : Int).tmod (Int.ofNat 256)))] = ofBytes (putB 2 x) := by
 have h : ofBytes (putB 2 x) = [.int .u8 ((UInt8.ofNat (x / 256 ^ 1)).toNat : Int), .int .u8 ((UInt8.ofNat (x / 256 ^ 0)).toNat : Int)] := rfl
 have e0 : (x : Int) = ((x / 256 ^ 0 : Nat) : Int) := by simp
 have d0 : wrapA .u64 (((x / 256 ^ 0 : Nat) : Int).tdiv (Int.ofNat 256)) = ((x / 256 ^ 1 : Nat) : Int) := by rw [div_step _ (by omega), Nat.div_div_eq_div_mul, ← Nat.pow_succ]
 rw [h, e0]
 try simp only [d0]
 try simp only [low_byte]
theorem rcells4 (x : Nat) (hx : x < 18446744073709551616) : [AV.int .u8 (wrapA .u8 ((wrapA .u64 ((wrapA .u64 ((wrapA .u64 ((x : Int).tdiv (Int.ofNat 256))).tdiv (Int.ofNat 256))).tdiv (Int.ofNat 256))).tmod (Int.ofNat 256))), AV.int .u8 (wrapA .u8 ((wrapA .u64 ((wrapA .u64 ((x : Int).tdiv (Int.ofNat 256))).tdiv (Int.ofNat 256))).tmod (Int.ofNat 256))), AV.int .u8 (wrapA .u8 ((wrapA .u64 ((x : Int).tdiv (Int.ofNat 256))).tmod (Int.ofNat 256))), AV.int .u8 (wrapA .u8 ((x : Int).tmod (Int.ofNat 256)))] = ofBytes (putB 4 x) := by
 have h : ofBytes (putB 4 x) = [.int .u8 ((UInt8.ofNat (x / 256 ^ 3)).toNat : Int), .int .u8 ((UInt8.ofNat (x / 256 ^ 2)).toNat : Int), .int .u8 ((UInt8.ofNat (x / 256 ^ 1)).toNat : Int), .int .u8 ((UInt8.ofNat (x / 256 ^ 0)).toNat : Int)] := rfl
 have e0 : (x : Int) = ((x / 256 ^ 0 : Nat) : Int) := by simp
 have d0 : wrapA .u64 (((x / 256 ^ 0 : Nat) : Int).tdiv (Int.ofNat 256)) = ((x / 256 ^ 1 : Nat) : Int) := by rw [div_step _ (by omega), Nat.div_div_eq_div_mul, ← Nat.pow_succ]
 have d1 : wrapA .u64 (((x / 256 ^ 1 : Nat) : Int).tdiv (Int.ofNat 256)) = ((x / 256 ^ 2 : Nat) : Int) := by rw [div_step _ (by omega), Nat.div_div_eq_div_mul, ← Nat.pow_succ]
 have d2 : wrapA .u64 (((x / 256 ^ 2 : Nat) : Int).tdiv (Int.ofNat 256)) = ((x / 256 ^ 3 : Nat) : Int) := by rw [div_step _ (by omega), Nat.div_div_eq_div_mul, ← Nat.pow_succ]
 rw [h, e0]
 try simp only [d0, d1, d2]
 try simp only [low_byte]
theorem rcells8 (x : Nat) (hx : x < 18446744073709551616) : [AV.int .u8 (wrapA .u8 ((wrapA .u64 ((wrapA .u64 ((wrapA .u64 ((wrapA .u64 ((wrapA .u64 ((wrapA .u64 ((wrapA .u64 ((x : Int).tdiv (Int.ofNat 256))).tdiv (Int.ofNat 256))).tdiv (Int.ofNat 256))).tdiv (Int.ofNat 256))).tdiv (Int.ofNat 256))).tdiv (Int.ofNat 256))).tdiv (Int.ofNat 256))).tmod (Int.ofNat 256))), AV.int .u8 (wrapA .u8 ((wrapA .u64 ((wrapA .u64 ((wrapA .u64 ((wrapA .u64 ((wrapA .u64 ((wrapA .u64 ((x : Int).tdiv (Int.ofNat 256))).tdiv (Int.ofNat 256))).tdiv (Int.ofNat 256))).tdiv (Int.ofNat 256))).tdiv (Int.ofNat 256))).tdiv (Int.ofNat 256))).tmod (Int.ofNat 256))), AV.int .u8 (wrapA .u8 ((wrapA .u64 ((wrapA .u64 ((wrapA .u64 ((wrapA .u64 ((wrapA .u64 ((x : Int).tdiv (Int.ofNat 256))).tdiv (Int.ofNat 256))).tdiv (Int.ofNat 256))).tdiv (Int.ofNat 256))).tdiv (Int.ofNat 256))).tmod (Int.ofNat 256))), AV.int .u8 (wrapA .u8 ((wrapA .u64 ((wrapA .u64 ((wrapA .u64 ((wrapA .u64 ((x : Int).tdiv (Int.ofNat 256))).tdiv (Int.ofNat 256))).tdiv (Int.ofNat 256))).tdiv (Int.ofNat 256))).tmod (Int.ofNat 256))), AV.int .u8 (wrapA .u8 ((wrapA .u64 ((wrapA .u64 ((wrapA .u64 ((x : Int).tdiv (Int.ofNat 256))).tdiv (Int.ofNat 256))).tdiv (Int.ofNat 256))).tmod (Int.ofNat 256))), AV.int .u8 (wrapA .u8 ((wrapA .u64 ((wrapA .u64 ((x : Int).tdiv (Int.ofNat 256))).tdiv (Int.ofNat 256))).tmod (Int.ofNat 256))), AV.int .u8 (wrapA .u8 ((wrapA .u64 ((x : Int).tdiv (Int.ofNat 256))).tmod (Int.ofNat 256))), AV.int .u8 (wrapA .u8 ((x : Int).tmod (Int.ofNat 256)))] = ofBytes (putB 8 x) := by
 have h : ofBytes (putB 8 x) = [.int .u8 ((UInt8.ofNat (x / 256 ^ 7)).toNat : Int), .int .u8 ((UInt8.ofNat (x / 256 ^ 6)).toNat : Int), .int .u8 ((UInt8.ofNat (x / 256 ^ 5)).toNat : Int), .int .u8 ((UInt8.ofNat (x / 256 ^ 4)).toNat : Int), .int .u8 ((UInt8.ofNat (x / 256 ^ 3)).toNat : Int), .int .u8 ((UInt8.ofNat (x / 256 ^ 2)).toNat : Int), .int .u8 ((UInt8.ofNat (x / 256 ^ 1)).toNat : Int), .int .u8 ((UInt8.ofNat (x / 256 ^ 0)).toNat : Int)] := rfl
 have e0 : (x : Int) = ((x / 256 ^ 0 : Nat) : Int) := by simp
 have d0 : wrapA .u64 (((x / 256 ^ 0 : Nat) : Int).tdiv (Int.ofNat 256)) = ((x / 256 ^ 1 : Nat) : Int) := by rw [div_step _ (by omega), Nat.div_div_eq_div_mul, ← Nat.pow_succ]
 have d1 : wrapA .u64 (((x / 256 ^ 1 : Nat) : Int).tdiv (Int.ofNat 256)) = ((x / 256 ^ 2 : Nat) : Int) := by rw [div_step _ (by omega), Nat.div_div_eq_div_mul, ← Nat.pow_succ]
 have d2 : wrapA .u64 (((x / 256 ^ 2 : Nat) : Int).tdiv (Int.ofNat 256)) = ((x / 256 ^ 3 : Nat) : Int) := by rw [div_step _ (by omega), Nat.div_div_eq_div_mul, ← Nat.pow_succ]
 have d3 : wrapA .u64 (((x / 256 ^ 3 : Nat) : Int).tdiv (Int.ofNat 256)) = ((x / 256 ^ 4 : Nat) : Int) := by rw [div_step _ (by omega), Nat.div_div_eq_div_mul, ← Nat.pow_succ]
 have d4 : wrapA .u64 (((x / 256 ^ 4 : Nat) : Int).tdiv (Int.ofNat 256)) = ((x / 256 ^ 5 : Nat) : Int) := by rw [div_step _ (by omega), Nat.div_div_eq_div_mul, ← Nat.pow_succ]
 have d5 : wrapA .u64 (((x / 256 ^ 5 : Nat) : Int).tdiv (Int.ofNat 256)) = ((x / 256 ^ 6 : Nat) : Int) := by rw [div_step _ (by omega), Nat.div_div_eq_div_mul, ← Nat.pow_succ]
 have d6 : wrapA .u64 (((x / 256 ^ 6 : Nat) : Int).tdiv (Int.ofNat 256)) = ((x / 256 ^ 7 : Nat) : Int) := by rw [div_step _ (by omega), Nat.div_div_eq_div_mul, ← Nat.pow_succ]
 rw [h, e0]
 try simp only [d0, d1, d2, d3, d4, d5, d6]
 try simp only [low_byte]
def rputR : RSum := RSum.nb true fun us => match us with
 | [.int .u64 x, .int .i64 (.ofNat w)] => some ([isW w, ileB 0 x, iltB x 18446744073709551616], fun n => .slice (some (n, 0)) w (some w), [.cells true 5 w (kept (ofBytes (putB w x.toNat)))])
 | _ => none
theorem rputR_ok : RSum.Sound Try.prog tys 49 rputR := by
 refine RSum.sound (cx_goes _ _) all01 (RSum.nb_ok fun us c v bs hm hc => ?_)
 split at hm
 · rename_i x w
   injection hm with hm; injection hm with e1 hm; injection hm with e2 e3; rw [kept_eq] at e3; subst e1; subst e2; subst e3
   simp only [allTrue_cons] at hc
   obtain ⟨c1, c2, c3, _⟩ := hc
   obtain ⟨x, rfl⟩ := nat_of c2
   have c3 : x < 18446744073709551616 := lt_of c3
   refine ⟨fun b hb => ?_, ?_⟩
   · have : b = .cells true 5 w (ofBytes (putB w x)) := by simpa using hb
     subst this
     simp only [Blk.plainOwn, ofBytes_plain, Bool.and_self]
   · have fin : ∀ (n : Nat) (ρ : Nat → Nat), (∀ (l j : Nat), [0][l]? = some j → ρ j = n + l) → AV.Le ((AV.slice (some (0, 0)) w (some w)).ren ρ) (.slice (some (n, 0)) w (some w)) := by
      intro n ρ hρ
      have := hρ 0 0 rfl
      simp only [AV.ren, Option.map_some, this, Nat.add_zero]
      exact AV.Le.refl _
     rcases isW_cases c1 with rfl | rfl | rfl | rfl
     · obtain ⟨h', h, hb⟩ := rput1 x
       exact ⟨60, h', [0], _, h, by rw [hb, rcells1 x c3]; rfl, sel_one 0, rfl, fin⟩
     · obtain ⟨h', h, hb⟩ := rput2 x
       exact ⟨60, h', [0], _, h, by rw [hb, rcells2 x c3]; rfl, sel_one 0, rfl, fin⟩
     · obtain ⟨h', h, hb⟩ := rput4 x
       exact ⟨60, h', [0], _, h, by rw [hb, rcells4 x c3]; rfl, sel_one 0, rfl, fin⟩
     · obtain ⟨h', h, hb⟩ := rput8 x
       exact ⟨60, h', [0], _, h, by rw [hb, rcells8 x c3]; rfl, sel_one 0, rfl, fin⟩
 · cases hm
end Go.Proofs.Ytecncappdnhbaaa
end
end

section
noncomputable section
namespace Go.Ab
namespace M
def xorB (n : Nat) (a b : List UInt8) : List UInt8 := (List.range n).map fun i => a.getD i 0 ^^^ b.getD i 0
end M
open M
end Go.Ab
namespace Go.Proofs.Ytecncappdnhbaaa
open Go.Ab.M Go.Ab Go
structure XorS where
 a0 : Bool
 l : List UInt8
 a1 : Bool
 m : List UInt8
 n : Nat
 c : Nat
 cs : List AV
 i : Nat
def XorS.enc (p : XorS) : HSt := (.slice (some (0, 0)) p.n (some p.c), some (.cells true 5 p.n (ofBytes ((xorB p.n p.l p.m).take p.i) ++ p.cs.drop p.i)), [.fsl p.a0 p.l.length (ofBytes p.l), .fsl p.a1 p.m.length (ofBytes p.m), .int .i64 (.ofNat p.n), .int .i64 (.ofNat p.i)])
def XorS.fin (p : XorS) : AX × HSt := (.exit 0, .slice (some (0, 0)) p.n (some p.c), some (.cells true 5 p.n (ofBytes (xorB p.n p.l p.m))), [.fsl p.a0 p.l.length (ofBytes p.l), .fsl p.a1 p.m.length (ofBytes p.m), .int .i64 (.ofNat p.n), .int .i64 (.ofNat p.n)])
def XorS.ok (p : XorS) : Prop := p.n ≤ p.l.length ∧ p.n ≤ p.m.length ∧ p.cs.length = p.n ∧ AV.plainL p.cs = true ∧ p.i ≤ p.n ∧ p.n ≤ 1000000000000
end Go.Proofs.Ytecncappdnhbaaa
end
end

section
noncomputable section
namespace Go.Ab
namespace M
def zeroL (cs : List AV) : Bool := kept ((bytesL cs).all fun b => b == 0)
def firstNZ (cs : List AV) : Nat := kept ((bytesL cs).findIdx fun b => b != 0)
end M
open M
end Go.Ab
namespace Go.Proofs.Ytecncappdnhbaaa
open Go.Ab.M Go.Ab Go
structure IdxS where
 nl : Bool
 l : List UInt8
 z : Int
 i : Nat
def IdxS.enc (p : IdxS) : HSt := (.int .i64 (.ofNat p.i), none, [.fsl p.nl p.l.length (ofBytes p.l), .func 83 [] [], .int .i64 p.z, .int .i64 (.ofNat p.l.length)])
def idxN : HLoop := ⟨19, blockOf Try.f101 0, 8, [0, 1, 4, 7], fun v ob us => match v, ob, us with
 | .int .i64 (.ofNat 0), none, [.fsl nl len cs, .func 83 [] [], .int .i64 z, .int .i64 (.ofNat n)] =>
  some ([u8L cs, Nat.beq cs.length len, Nat.beq n len, !zeroL cs, Nat.ble len 1000000000000], .ret, .int .i64 (.ofNat (firstNZ cs)), none, [.fsl nl len cs, .func 83 [] [], .int .i64 (.ofNat (firstNZ cs)), .int .i64 (.ofNat n)])
 | _, _, _ => none⟩
structure LawS where
 a0 : Bool
 l : List UInt8
 a1 : Bool
 m : List UInt8
 z : Int
 n : Nat
 c : Nat
 i : Nat
def LawS.enc (p : LawS) : HSt := (.slice (some (0, 0)) p.n (some p.c), some (.cells true 5 p.n (ofBytes (xorB p.n p.l p.m))), [.fsl p.a0 p.l.length (ofBytes p.l), .fsl p.a1 p.m.length (ofBytes p.m), .int .i64 p.z, .int .i64 (.ofNat p.n), .int .i64 (.ofNat p.i)])
def LawS.fin (p : LawS) : AX × HSt := (.exit 0, .slice (some (0, 0)) p.n (some p.c), some (.cells true 5 p.n (ofBytes (xorB p.n p.l p.m))), [.fsl p.a0 p.l.length (ofBytes p.l), .fsl p.a1 p.m.length (ofBytes p.m), .int .i64 p.z, .int .i64 (.ofNat p.n), .int .i64 (.ofNat p.n)])
end Go.Proofs.Ytecncappdnhbaaa
end
end

section
noncomputable section
namespace Go.Proofs.Ytecncappdnhbaaa
open Go.Ab.M Go.Ab Go
end Go.Proofs.Ytecncappdnhbaaa
end
end

section
noncomputable section
namespace Go.Ab
open Go.RowKit
theorem RSum.Sound.of {P : Program} {ty : TypeId → Option ATy} {g : FuncId} {s s' : RSum} (h : RSum.Sound P ty g s) (hn : s'.nf = s.nf)
 (hm : ∀ us c' q, s'.m us = some (c', q) → allTrue c' = true → ∃ c, s.m us = some (c, q) ∧ allTrue c = true) : RSum.Sound P ty g s' := by
 intro base w0 g' args H H' v μ w xs hsum hw hr r n
 have hsum' : ftSum ty [(g, s')] g' args H = some (v, H') := hsum
 unfold ftSum at hsum'
 replace hsum' := ob_eq hsum'; obtain ⟨s1, hf, hsum'⟩ := hsum'
 have hg : (g', s1) = (g, s') := by simpa using ftFind_mem hf
 injection hg with hg1 hg2
 subst hg1; subst hg2
 replace hsum' := ob_eq hsum'; obtain ⟨⟨c1, us⟩, hv, hsum'⟩ := hsum'
 replace hsum' := ob_eq hsum'; obtain ⟨⟨c2, q⟩, hq, hsum'⟩ := hsum'
 simp only at hsum' hq
 cases hc : allTrue (c1 ++ c2) with
 | false => rw [hc] at hsum'; cases hsum'
 | true =>
  rw [hc, cb_true] at hsum'
  rw [allTrue_append] at hc
  obtain ⟨c, h1, h2⟩ := hm us c2 q hq hc.2
  refine h base w0 (g := g') (args := args) (H := H) (H' := H') (v := v) (μ := μ) (w := w) (xs := xs) ?_ hw hr r n
  show ftSum ty [(g', s)] g' args H = some (v, H')
  unfold ftSum
  have e1 : ftFind [(g', s)] g' = some s := by
   show cb (Nat.beq g' g') _ _ = _
   simp
  rw [e1, ob_some, ← hn, hv, ob_some]
  simp only
  rw [h1, ob_some]
  simp only
  rw [allTrue_append.2 ⟨hc.1, h2⟩, cb_true]
  exact hsum'
end Go.Ab
namespace Go.Proofs.Ytecncappdnhbaaa
open Go.Ab.M Go.Ab Go
def putKu32 : RSum := RSum.nb true fun us => match us with
 | [.fsl false len cs, .int .u32 x] => some ([Nat.beq cs.length len, u8L cs, Nat.ble len 1000000000000, ileB 0 x, iltB x 4294967296], fun n => .slice (some (n, 0)) (len + 4) none, [.cells true 5 (len + 4) (kept (ofBytes (bytesL cs ++ putB 4 x.toNat)))])
 | _ => none
theorem putKu32_ok : RSum.Sound Try.prog tys 78 putKu32 := by
 refine putRu32_ok.of rfl fun us c' q hq hc => ?_
 simp only [putKu32, RSum.nb] at hq
 replace hq := ob_eq hq; obtain ⟨⟨c1, v, bs⟩, hm, hq⟩ := hq
 injection hq with hq; injection hq with e1 e2; subst e1; subst e2
 split at hm
 · rename_i len cs x
   injection hm with hm; injection hm with e1 hm; injection hm with e2 e3; subst e1; subst e2; subst e3
   refine ⟨_, ?_, hc⟩
   simp only [allTrue_cons] at hc
   obtain ⟨b, rfl⟩ := u8L_iff.1 hc.2.1
   show (some _ : Option _) = some _
   simp only [kept_eq, bytesL_ofBytes, ofBytes_append]
 · cases hm
end Go.Proofs.Ytecncappdnhbaaa
end
end

section
noncomputable section
namespace Go.Proofs.Ytecncappdnhbaaa
open Go.Ab.M Go.Ab Go
theorem lives24_ok : RSum.Sound Try.prog tys 46 (RSum.const (.bool true)) := RSum.sound (cx_goes _ _) all0 (RSum.const_ok rfl (run_val (f := 100) (by kernel_rfl)))
abbrev T9a : TTab := [(78, putKu32.rt), (49, rputR.rt), (67, cloneR.rt), (46, (RSum.const (.bool true)).rt)]
theorem T9a_ok : TOK Try.prog tys T9a := ⟨RSum.rt_sound putKu32_ok, RSum.rt_sound rputR_ok, RSum.rt_sound cloneR_ok, RSum.rt_sound lives24_ok, trivial⟩
def K9a : Known := { t := T9a }
theorem K9a_ok : KOK Try.prog tys K9a := ⟨T9a_ok, trivial, trivial, trivial, trivial⟩
abbrev C9a := mkCxZ tys fns K9a
theorem all9a : SumAll Try.prog C9a := sums_allZ K9a_ok
end Go.Proofs.Ytecncappdnhbaaa
end
end

section
noncomputable section
namespace Go.Ab
namespace M
end M
open M
theorem bytesEq_refl (b : List UInt8) : bytesEq b b = true := by rw [bytesEq_eq]; exact beq_self_eq_true b
end Go.Ab
end
end

section
noncomputable section
namespace Go.Ab
namespace M
def encS (l : List (List UInt8)) : List AV := l.map AV.str
def isS (cs : List AV) : Bool := cs.all AV.isStr
def strsS (cs : List AV) : List (List UInt8) := cs.map AV.strOf
def rowD (x : Bool × List UInt8) : AV := .fsl x.1 x.2.length (ofBytes x.2)
def AV.isD (v : AV) : Bool := v.isFsl && u8L v.fslCells && Nat.beq v.fslCells.length v.fslLen
def AV.unD (v : AV) : Bool × List UInt8 := (v.fslNil, bytesL v.fslCells)
def encD (l : List (Bool × List UInt8)) : List AV := l.map rowD
def isD (cs : List AV) : Bool := cs.all AV.isD
def rowsD (cs : List AV) : List (Bool × List UInt8) := cs.map AV.unD
end M
open M
theorem isS_iff {cs : List AV} : isS cs = true ↔ ∃ l, cs = encS l := by
  constructor
  · intro h
    refine ⟨strsS cs, ?_⟩
    unfold strsS encS
    rw [List.map_map]
    conv => lhs; rw [← List.map_id cs]
    refine List.map_congr_left fun v hv => ?_
    have := List.all_eq_true.1 h v hv
    cases v <;> simp [AV.isStr] at this
    rfl
  · rintro ⟨l, rfl⟩
    unfold isS encS
    rw [List.all_map]
    exact List.all_eq_true.2 fun x _ => rfl
theorem strsS_encS (l : List (List UInt8)) : strsS (encS l) = l := by
  unfold strsS encS
  rw [List.map_map]
  conv => rhs; rw [← List.map_id l]
  exact List.map_congr_left fun x _ => rfl
theorem encS_length (l : List (List UInt8)) : (encS l).length = l.length := by unfold encS; rw [List.length_map]
theorem encS_plainL (l : List (List UInt8)) : AV.plainL (encS l) = true := by
  induction l with
  | nil => rfl
  | cons x l ih => exact ih
theorem encS_at (l : List (List UInt8)) (i : Nat) (n : List UInt8) (h : l[i]? = some n) : (listAt (List.drop ((Int.ofNat i).toNat * 1) (encS l)) 0).getD AV.undef = .str n := by
  have e : (Int.ofNat i).toNat * 1 = i := Nat.mul_one i
  rw [e, listAt_eq, List.getElem?_drop]
  unfold encS
  rw [List.getElem?_map, Nat.add_zero, h]; rfl
theorem isD_rowD (x : Bool × List UInt8) : AV.isD (rowD x) = true := by
  simp only [AV.isD, rowD, AV.isFsl, AV.fslCells, AV.fslLen, u8L_ofBytes, ofBytes_length, Bool.true_and]
  exact Nat.beq_refl _
theorem isD_iff {cs : List AV} : isD cs = true ↔ ∃ l, cs = encD l := by
  constructor
  · intro h
    refine ⟨rowsD cs, ?_⟩
    unfold rowsD encD
    rw [List.map_map]
    conv => lhs; rw [← List.map_id cs]
    refine List.map_congr_left fun v hv => ?_
    have := List.all_eq_true.1 h v hv
    simp only [AV.isD, Bool.and_eq_true] at this
    obtain ⟨⟨h1, h2⟩, h3⟩ := this
    cases v <;> simp [AV.isFsl] at h1
    rename_i nl n c
    obtain ⟨b, rfl⟩ := u8L_iff.1 h2
    have h3 := Nat.eq_of_beq_eq_true h3
    simp only [AV.fslCells, AV.fslLen, ofBytes_length] at h3
    subst h3
    simp only [id, Function.comp, AV.unD, rowD, AV.fslNil, AV.fslCells, bytesL_ofBytes]
  · rintro ⟨l, rfl⟩
    unfold isD encD
    rw [List.all_map]
    exact List.all_eq_true.2 fun x _ => isD_rowD x
theorem rowsD_encD (l : List (Bool × List UInt8)) : rowsD (encD l) = l := by
  unfold rowsD encD
  rw [List.map_map]
  conv => rhs; rw [← List.map_id l]
  refine List.map_congr_left fun x _ => ?_
  simp only [id, Function.comp, AV.unD, rowD, AV.fslNil, AV.fslCells, bytesL_ofBytes]
theorem encD_length (l : List (Bool × List UInt8)) : (encD l).length = l.length := by unfold encD; rw [List.length_map]
theorem encD_at (l : List (Bool × List UInt8)) (i : Nat) (n : Bool × List UInt8) (h : l[i]? = some n) : (listAt (List.drop ((Int.ofNat i).toNat * 1) (encD l)) 0).getD AV.undef = .fsl n.1 n.2.length (ofBytes n.2) := by
  have e : (Int.ofNat i).toNat * 1 = i := Nat.mul_one i
  rw [e, listAt_eq, List.getElem?_drop]
  unfold encD
  rw [List.getElem?_map, Nat.add_zero, h]; rfl
theorem encD_plainL (l : List (Bool × List UInt8)) : AV.plainL (encD l) = true := by
  induction l with
  | nil => rfl
  | cons x l ih =>
    show (AV.plain (rowD x) && AV.plainL (encD l)) = true
    rw [ih, Bool.and_true]
    show AV.plainL (ofBytes x.2) = true
    exact ofBytes_plainL _
end Go.Ab
end
end

section
noncomputable section
namespace Go.Ab
namespace M
def p450 (n : Nat) : Bool := Nat.ble n 450
def p440 (n : Nat) : Bool := Nat.beq n 440
def okD (p : Nat → Bool) (cs : List AV) : Bool := cs.all fun v => p v.fslLen
def badD (p : Nat → Bool) (cs : List AV) : Nat := cs.findIdx fun v => !p v.fslLen
end M
open M
theorem encD_get (l : List (Bool × List UInt8)) (i : Nat) (hi : i < (encD l).length) (h : i < l.length) : (encD l)[i] = rowD l[i] := by
 simp [encD]
theorem okD_at {p : Nat → Bool} {ds : List (Bool × List UInt8)} (h : okD p (encD ds) = true) {i : Nat} {x : Bool × List UInt8} (hx : ds[i]? = some x) : p x.2.length = true := by
 have := List.all_eq_true.1 h (rowD x) (by unfold encD; exact List.mem_map_of_mem (List.mem_of_getElem? hx))
 exact this
theorem badD_lt {p : Nat → Bool} {ds : List (Bool × List UInt8)} (h : okD p (encD ds) = false) : badD p (encD ds) < ds.length := by
 have e : (encD ds).length = ds.length := encD_length ds
 rw [← e]
 unfold badD
 refine List.findIdx_lt_length_of_exists ?_
 unfold okD at h
 have h := List.all_eq_false.1 h
 obtain ⟨x, hx, hp⟩ := h
 exact ⟨x, hx, by simpa using hp⟩
theorem badD_before {p : Nat → Bool} {ds : List (Bool × List UInt8)} {i : Nat} (h : i < badD p (encD ds)) {x : Bool × List UInt8} (hx : ds[i]? = some x) : p x.2.length = true := by
 obtain ⟨hlt, hv⟩ := List.getElem?_eq_some_iff.1 hx
 have := List.not_of_lt_findIdx h
 rw [encD_get ds i (by rw [encD_length]; exact hlt) hlt, hv] at this
 simpa [rowD, AV.fslLen] using this
theorem badD_at {p : Nat → Bool} {ds : List (Bool × List UInt8)} (h : okD p (encD ds) = false) {x : Bool × List UInt8} (hx : ds[badD p (encD ds)]? = some x) : p x.2.length = false := by
 obtain ⟨hlt, hv⟩ := List.getElem?_eq_some_iff.1 hx
 have := @List.findIdx_getElem _ (fun v : AV => !p v.fslLen) (encD ds) (by show badD p (encD ds) < _; rw [encD_length]; exact hlt)
 have e := encD_get ds (badD p (encD ds)) (by rw [encD_length]; exact hlt) hlt
 unfold badD at e hv
 rw [e, hv] at this
 simpa [rowD, AV.fslLen] using this
end Go.Ab
namespace Go.Proofs.Ytecncappdnhbaaa
open Go.Ab.M Go.Ab Go
theorem fw_r (op sub pl fi ct : Int) (la : Bool) (ln : Nat) (lv : List AV) (da : Bool) (dn : Nat) (dv : List AV) (db : Bool) (dm : Nat) (dw : List AV) (m i : Nat) (h0 : (iltB (Int.ofNat i) (Int.ofNat m)) = true) (h1 : ((Int.ofNat i).toNat.succ.ble dm) = true) (h2 : (dw.length.beq (dm.mul 1)) = true) (h3 : (Nat.ble 1 (List.drop ((Int.ofNat i).toNat * 1) dw).length) = true) (h4 : (((listAt (List.drop ((Int.ofNat i).toNat * 1) dw) 0).getD AV.undef).isFsl) = true) (h5 : (iltB (Int.ofNat 450) (Int.ofNat ((listAt (List.drop ((Int.ofNat i).toNat * 1) dw) 0).getD AV.undef).fslLen)) = false) (h6 : (AV.plainL dw) = true) (h7 : (AV.plainL lv) = true) (h8 : (AV.plainL dv) = true) :
 CodeOK Try.prog (tyCx tys) 26 1 (roundOf (blockOf Try.f56 0)) { fr := frameOf 26 ([1, 2, 6, 7, 8].zip [.ptr (some (0, 0)), .bool false, .fsl db dm dw, .int .i64 (Int.ofNat m), .int .i64 (Int.ofNat i)]), ds := upTo 0, H := mkL [.cells true 103 7 [.int .u8 op, .int .u8 sub, .int .u8 pl, .int .u32 fi, .int .u8 ct, .fsl la ln lv, .fsl da dn dv]] } (AX.normal) ⟨frameOf 26 ([1, 2, 6, 7, 8].zip [.ptr (some (0, 0)), .bool false, .fsl db dm dw, .int .i64 (Int.ofNat m), .int .i64 (wrapA IntKind.i64 ((Int.ofNat i).add (Int.ofNat 1)))]), upTo 0, mkL [.cells true 103 7 [.int .u8 op, .int .u8 sub, .int .u8 pl, .int .u32 fi, .int .u8 ct, .fsl la ln lv, .fsl da dn dv]]⟩ :=
 zrows_run (g := 30) (k := 56) (f := 30) (sl := [1, 2, 6, 7, 8]) (ks := [0]) (rs := []) (ds := []) (cxZ cx_goes) all9a (q := qNs [0,3,0,0,0,0,1]) (c := (cnT :: cnT :: cnT :: cnT :: cnT :: cnF :: [])) (cq := [true, AV.plainL dw, true, AV.plainL lv, AV.plainL dv]) (by kernel_rfl) ⟨h0, h1, h2, h3, h4, h5, trivial⟩ (holdsB ⟨rfl, h6, rfl, h7, h8, trivial⟩) (by kernel_rfl) (by kernel_rfl) (by kernel_rfl) (by kernel_rfl) (by kernel_rfl)
theorem fw_b (op sub pl fi ct : Int) (la : Bool) (ln : Nat) (lv : List AV) (da : Bool) (dn : Nat) (dv : List AV) (db : Bool) (dm : Nat) (dw : List AV) (m i : Nat) (h0 : (iltB (Int.ofNat i) (Int.ofNat m)) = true) (h1 : ((Int.ofNat i).toNat.succ.ble dm) = true) (h2 : (dw.length.beq (dm.mul 1)) = true) (h3 : (Nat.ble 1 (List.drop ((Int.ofNat i).toNat * 1) dw).length) = true) (h4 : (((listAt (List.drop ((Int.ofNat i).toNat * 1) dw) 0).getD AV.undef).isFsl) = true) (h5 : (iltB (Int.ofNat 450) (Int.ofNat ((listAt (List.drop ((Int.ofNat i).toNat * 1) dw) 0).getD AV.undef).fslLen)) = true) (h6 : (AV.plainL dw) = true) (h7 : (AV.plainL lv) = true) (h8 : (AV.plainL dv) = true) :
 CodeOK Try.prog (tyCx tys) 26 1 (roundOf (blockOf Try.f56 0)) { fr := frameOf 26 ([1, 2, 6, 7, 8].zip [.ptr (some (0, 0)), .bool false, .fsl db dm dw, .int .i64 (Int.ofNat m), .int .i64 (Int.ofNat i)]), ds := upTo 0, H := mkL [.cells true 103 7 [.int .u8 op, .int .u8 sub, .int .u8 pl, .int .u32 fi, .int .u8 ct, .fsl la ln lv, .fsl da dn dv]] } (AX.ret) ⟨frameOf 26 ([1, 2, 6, 7, 8].zip [.ptr (some (0, 0)), .bool false, .fsl db dm dw, .int .i64 (Int.ofNat m), .int .i64 (Int.ofNat i)]), upTo 0, mkL [.cells true 103 7 [.int .u8 op, .int .u8 sub, .int .u8 pl, .int .u32 fi, .int .u8 ct, .fsl la ln lv, .fsl da dn dv]]⟩ :=
 zrows_run (g := 30) (k := 56) (f := 30) (sl := [1, 2, 6, 7, 8]) (ks := [0]) (rs := []) (ds := []) (cxZ cx_goes) all9a (q := qNs [0,3,0,0,0,0,0]) (c := (cnT :: cnT :: cnT :: cnT :: cnT :: cnT :: [])) (cq := [true, AV.plainL dw, true, AV.plainL lv, AV.plainL dv]) (by kernel_rfl) ⟨h0, h1, h2, h3, h4, h5, trivial⟩ (holdsB ⟨rfl, h6, rfl, h7, h8, trivial⟩) (by kernel_rfl) (by kernel_rfl) (by kernel_rfl) (by kernel_rfl) (by kernel_rfl)
theorem fw_e (op sub pl fi ct : Int) (la : Bool) (ln : Nat) (lv : List AV) (da : Bool) (dn : Nat) (dv : List AV) (db : Bool) (dm : Nat) (dw : List AV) (m i : Nat) (h0 : (iltB (Int.ofNat i) (Int.ofNat m)) = false) (h1 : (AV.plainL dw) = true) (h2 : (AV.plainL lv) = true) (h3 : (AV.plainL dv) = true) :
 CodeOK Try.prog (tyCx tys) 26 1 (roundOf (blockOf Try.f56 0)) { fr := frameOf 26 ([1, 2, 6, 7, 8].zip [.ptr (some (0, 0)), .bool false, .fsl db dm dw, .int .i64 (Int.ofNat m), .int .i64 (Int.ofNat i)]), ds := upTo 0, H := mkL [.cells true 103 7 [.int .u8 op, .int .u8 sub, .int .u8 pl, .int .u32 fi, .int .u8 ct, .fsl la ln lv, .fsl da dn dv]] } (AX.exit 0) ⟨frameOf 26 ([1, 2, 6, 7, 8].zip [.ptr (some (0, 0)), .bool false, .fsl db dm dw, .int .i64 (Int.ofNat m), .int .i64 (Int.ofNat i)]), upTo 0, mkL [.cells true 103 7 [.int .u8 op, .int .u8 sub, .int .u8 pl, .int .u32 fi, .int .u8 ct, .fsl la ln lv, .fsl da dn dv]]⟩ :=
 zrows_run (g := 30) (k := 56) (f := 30) (sl := [1, 2, 6, 7, 8]) (ks := [0]) (rs := []) (ds := []) (cxZ cx_goes) all9a (q := qNs [1]) (c := (cnF :: [])) (cq := [true, AV.plainL dw, true, AV.plainL lv, AV.plainL dv]) (by kernel_rfl) ⟨h0, trivial⟩ (holdsB ⟨rfl, h1, rfl, h2, h3, trivial⟩) (by kernel_rfl) (by kernel_rfl) (by kernel_rfl) (by kernel_rfl) (by kernel_rfl)
theorem ix_r (db : Bool) (dm : Nat) (dw : List AV) (m i : Nat) (z : Int) (h0 : (iltB (Int.ofNat i) (Int.ofNat m)) = true) (h1 : ((Int.ofNat i).toNat.succ.ble dm) = true) (h2 : (dw.length.beq (dm.mul 1)) = true) (h3 : (Nat.ble 1 (List.drop ((Int.ofNat i).toNat * 1) dw).length) = true) (h4 : (((listAt (List.drop ((Int.ofNat i).toNat * 1) dw) 0).getD AV.undef).isFsl) = true) (h5 : (!ieqB (Int.ofNat ((listAt (List.drop ((Int.ofNat i).toNat * 1) dw) 0).getD AV.undef).fslLen) (Int.ofNat 440)) = false) (h6 : (AV.plainL dw) = true) :
 CodeOK Try.prog (tyCx tys) 19 0 (roundOf (blockOf Try.f108 0)) { fr := frameOf 19 ([0, 1, 4, 7, 8].zip [.fsl db dm dw, AV.func 107 [] [], .int .i64 z, .int .i64 (Int.ofNat m), .int .i64 (Int.ofNat i)]), ds := upTo 0, H := mkL [] } (AX.normal) ⟨frameOf 19 ([0, 1, 4, 7, 8].zip [.fsl db dm dw, AV.func 107 [] [], .int .i64 z, .int .i64 (Int.ofNat m), .int .i64 (wrapA IntKind.i64 ((Int.ofNat i).add (Int.ofNat 1)))]), upTo 0, mkL []⟩ :=
 zrows_run (g := 30) (k := 108) (f := 30) (sl := [0, 1, 4, 7, 8]) (ks := []) (rs := []) (ds := []) (cxZ cx_goes) all9a (q := qNs [0,3,0,0,0,0,1]) (c := (cnT :: cnT :: cnT :: cnT :: cnT :: cnF :: [])) (cq := [AV.plainL dw]) (by kernel_rfl) ⟨h0, h1, h2, h3, h4, h5, trivial⟩ (holdsB ⟨h6, trivial⟩) (by kernel_rfl) (by kernel_rfl) (by kernel_rfl) (by kernel_rfl) (by kernel_rfl)
theorem ix_b (db : Bool) (dm : Nat) (dw : List AV) (m i : Nat) (z : Int) (h0 : (iltB (Int.ofNat i) (Int.ofNat m)) = true) (h1 : ((Int.ofNat i).toNat.succ.ble dm) = true) (h2 : (dw.length.beq (dm.mul 1)) = true) (h3 : (Nat.ble 1 (List.drop ((Int.ofNat i).toNat * 1) dw).length) = true) (h4 : (((listAt (List.drop ((Int.ofNat i).toNat * 1) dw) 0).getD AV.undef).isFsl) = true) (h5 : (!ieqB (Int.ofNat ((listAt (List.drop ((Int.ofNat i).toNat * 1) dw) 0).getD AV.undef).fslLen) (Int.ofNat 440)) = true) (h6 : (AV.plainL dw) = true) :
 CodeOK Try.prog (tyCx tys) 19 0 (roundOf (blockOf Try.f108 0)) { fr := frameOf 19 ([0, 1, 4, 7, 8].zip [.fsl db dm dw, AV.func 107 [] [], .int .i64 z, .int .i64 (Int.ofNat m), .int .i64 (Int.ofNat i)]), ds := upTo 0, H := mkL [] } (AX.ret) ⟨frameOf 19 ([0, 1, 4, 7, 8].zip [.fsl db dm dw, AV.func 107 [] [], .int .i64 (Int.ofNat i), .int .i64 (Int.ofNat m), .int .i64 (Int.ofNat i)]), upTo 0, mkL []⟩ :=
 zrows_run (g := 30) (k := 108) (f := 30) (sl := [0, 1, 4, 7, 8]) (ks := []) (rs := []) (ds := []) (cxZ cx_goes) all9a (q := qNs [0,3,0,0,0,0,0]) (c := (cnT :: cnT :: cnT :: cnT :: cnT :: cnT :: [])) (cq := [AV.plainL dw]) (by kernel_rfl) ⟨h0, h1, h2, h3, h4, h5, trivial⟩ (holdsB ⟨h6, trivial⟩) (by kernel_rfl) (by kernel_rfl) (by kernel_rfl) (by kernel_rfl) (by kernel_rfl)
theorem ix_e (db : Bool) (dm : Nat) (dw : List AV) (m i : Nat) (z : Int) (h0 : (iltB (Int.ofNat i) (Int.ofNat m)) = false) (h1 : (AV.plainL dw) = true) :
 CodeOK Try.prog (tyCx tys) 19 0 (roundOf (blockOf Try.f108 0)) { fr := frameOf 19 ([0, 1, 4, 7, 8].zip [.fsl db dm dw, AV.func 107 [] [], .int .i64 z, .int .i64 (Int.ofNat m), .int .i64 (Int.ofNat i)]), ds := upTo 0, H := mkL [] } (AX.exit 0) ⟨frameOf 19 ([0, 1, 4, 7, 8].zip [.fsl db dm dw, AV.func 107 [] [], .int .i64 z, .int .i64 (Int.ofNat m), .int .i64 (Int.ofNat i)]), upTo 0, mkL []⟩ :=
 zrows_run (g := 30) (k := 108) (f := 30) (sl := [0, 1, 4, 7, 8]) (ks := []) (rs := []) (ds := []) (cxZ cx_goes) all9a (q := qNs [1]) (c := (cnF :: [])) (cq := [AV.plainL dw]) (by kernel_rfl) ⟨h0, trivial⟩ (holdsB ⟨h1, trivial⟩) (by kernel_rfl) (by kernel_rfl) (by kernel_rfl) (by kernel_rfl) (by kernel_rfl)
def fwT : List AV × List Blk → Bool := fun x => match x.1 with
 | [_, _, .fsl _ _ dw, _, _] => okD p450 dw
 | _ => false
def fw0 : List AV × List Blk → Option (List Bool × AX × List AV × List Blk) := fun x => match x with
 | ([.ptr (some (0, 0)), .bool false, .fsl db dm dw, .int .i64 (.ofNat m), .int .i64 (.ofNat i)], [.cells true 103 7 [.int .u8 op, .int .u8 sub, .int .u8 pl, .int .u32 fi, .int .u8 ct, .fsl la ln lv, .fsl da dn dv]]) =>
  some ([isD dw, Nat.beq dw.length dm, Nat.beq m dm, Nat.beq i 0, Nat.ble dm 9223372036854775807, okD p450 dw, AV.plainL lv, AV.plainL dv], .normal, [.ptr (some (0, 0)), .bool false, .fsl db dm dw, .int .i64 (Int.ofNat dm), .int .i64 (Int.ofNat dm)], [.cells true 103 7 [.int .u8 op, .int .u8 sub, .int .u8 pl, .int .u32 fi, .int .u8 ct, .fsl la ln lv, .fsl da dn dv]])
 | _ => none
def fw1 : List AV × List Blk → Option (List Bool × AX × List AV × List Blk) := fun x => match x with
 | ([.ptr (some (0, 0)), .bool false, .fsl db dm dw, .int .i64 (.ofNat m), .int .i64 (.ofNat i)], [.cells true 103 7 [.int .u8 op, .int .u8 sub, .int .u8 pl, .int .u32 fi, .int .u8 ct, .fsl la ln lv, .fsl da dn dv]]) =>
  some ([isD dw, Nat.beq dw.length dm, Nat.beq m dm, Nat.beq i 0, Nat.ble dm 9223372036854775807, !okD p450 dw, AV.plainL lv, AV.plainL dv], .ret, [.ptr (some (0, 0)), .bool false, .fsl db dm dw, .int .i64 (Int.ofNat dm), .int .i64 (Int.ofNat (badD p450 dw))], [.cells true 103 7 [.int .u8 op, .int .u8 sub, .int .u8 pl, .int .u32 fi, .int .u8 ct, .fsl la ln lv, .fsl da dn dv]])
 | _ => none
def fwL : ZLT := ⟨26, blockOf Try.f56 0, [1, 2, 6, 7, 8], 0, [], .node fwT (.leaf fw0) (.leaf fw1)⟩
theorem fwL_ok : fwL.OK Try.prog (tyCx tys) (flOf tys) 0 := by
 refine ⟨?_, ?_⟩
 · intro vs bs conds X vs' bs' h hc hin
   have h : fw0 (vs, bs) = some (conds, X, vs', bs') := h
   unfold fw0 at h
   split at h
   · rename_i db dm dw m i op sub pl fi ct la ln lv da dn dv he
     injection he with he1 he2
     subst he1; subst he2
     injection h with h; injection h with e1 h; injection h with e2 h; injection h with e3 e4
     subst e1; subst e2; subst e3; subst e4
     simp only [allTrue_cons] at hc
     obtain ⟨c1, c2, c3, c4, c5, c6, q1, q2, _⟩ := hc
     obtain ⟨ds, rfl⟩ := isD_iff.1 c1
     have c2 := eq_of_beq' c2
     have c3 := eq_of_beq' c3
     have c4 := eq_of_beq' c4
     rw [encD_length] at c2
     subst c3; subst c4; subst c2
     have c5 := Nat.le_of_ble_eq_true c5
     have key := CodeOK.loop (P := Try.prog) (cx := tyCx tys) (nn := 26) (n0 := 1) (b := roundOf (blockOf Try.f56 0)) (fun q : {i : Nat // i ≤ ds.length} => (fwL.at fw0).st ([.ptr (some (0, 0)), .bool false, .fsl db ds.length (encD ds), .int .i64 (Int.ofNat ds.length), .int .i64 (Int.ofNat q.1)], [.cells true 103 7 [.int .u8 op, .int .u8 sub, .int .u8 pl, .int .u32 fi, .int .u8 ct, .fsl la ln lv, .fsl da dn dv]]))
      (fun q => (.exit 0, (fwL.at fw0).st ([.ptr (some (0, 0)), .bool false, .fsl db ds.length (encD ds), .int .i64 (Int.ofNat ds.length), .int .i64 (Int.ofNat ds.length)], [.cells true 103 7 [.int .u8 op, .int .u8 sub, .int .u8 pl, .int .u32 fi, .int .u8 ct, .fsl la ln lv, .fsl da dn dv]]))) (fun q => ds.length - q.1) (fun q => by
      obtain ⟨i, hi⟩ := q
      simp only
      by_cases hlt : i < ds.length
      · refine .inl ⟨⟨i + 1, hlt⟩, ?_, trivial, by simp only; omega⟩
        obtain ⟨x, hx⟩ : ∃ x, ds[i]? = some x := ⟨_, List.getElem?_eq_getElem hlt⟩
        have hg := okD_at c6 hx
        have e1 : (listAt (List.drop ((Int.ofNat i).toNat * 1) (encD ds)) 0).getD AV.undef = .fsl x.1 x.2.length (ofBytes x.2) := encD_at ds i x hx
        have k0 : iltB (Int.ofNat i) (Int.ofNat ds.length) = true := by rw [iltB_eq]; exact decide_eq_true (by show ((i : Nat) : Int) < (ds.length : Int); omega)
        have hw : wrapA .i64 ((Int.ofNat i).add (Int.ofNat 1)) = Int.ofNat (i + 1) := wrapA_nat .i64 (i + 1) (by show _ < 9223372036854775808; omega)
        have lc : iltB (Int.ofNat 450) (Int.ofNat x.2.length) = false := by rw [iltB_eq]; exact decide_eq_false (by have := Nat.le_of_ble_eq_true hg; show ¬ ((450 : Nat) : Int) < (x.2.length : Int); omega)
        have key := fw_r op sub pl fi ct la ln lv da dn dv db ds.length (encD ds) ds.length i
        iterate 9
         replace key := key (by
          (try simp only [e1, k0, AV.fslLen, AV.isFsl, lc])
          first
           | done
           | with_reducible rfl
           | with_reducible exact encD_plainL _
           | with_reducible exact q1
           | with_reducible exact q2
           | (simp [nble, encD_length]; omega)
           | (simp [nbeq, encD_length]; done)
           | (simp [nble, encD_length]; done))
        try simp only [hw] at key
        exact key
      · have hi : i = ds.length := by omega
        subst hi
        refine .inr ⟨?_, by simp⟩
        have k0 : iltB (Int.ofNat ds.length) (Int.ofNat ds.length) = false := by rw [iltB_eq]; exact decide_eq_false (by show ¬ (ds.length : Int) < (ds.length : Int); omega)
        exact fw_e op sub pl fi ct la ln lv da dn dv db ds.length (encD ds) ds.length ds.length k0 (encD_plainL _) q1 q2) ⟨0, Nat.zero_le _⟩
     exact CodeOK.block 0 key
   · cases h
 · intro vs bs conds X vs' bs' h hc hin
   have h : fw1 (vs, bs) = some (conds, X, vs', bs') := h
   unfold fw1 at h
   split at h
   · rename_i db dm dw m i op sub pl fi ct la ln lv da dn dv he
     injection he with he1 he2
     subst he1; subst he2
     injection h with h; injection h with e1 h; injection h with e2 h; injection h with e3 e4
     subst e1; subst e2; subst e3; subst e4
     simp only [allTrue_cons] at hc
     obtain ⟨c1, c2, c3, c4, c5, c6, q1, q2, _⟩ := hc
     obtain ⟨ds, rfl⟩ := isD_iff.1 c1
     have c2 := eq_of_beq' c2
     have c3 := eq_of_beq' c3
     have c4 := eq_of_beq' c4
     rw [encD_length] at c2
     subst c3; subst c4; subst c2
     have c5 := Nat.le_of_ble_eq_true c5
     have c6 : okD p450 (encD ds) = false := by simpa using c6
     have hk := badD_lt c6
     have key := CodeOK.loop (P := Try.prog) (cx := tyCx tys) (nn := 26) (n0 := 1) (b := roundOf (blockOf Try.f56 0)) (fun q : {i : Nat // i ≤ badD p450 (encD ds)} => (fwL.at fw1).st ([.ptr (some (0, 0)), .bool false, .fsl db ds.length (encD ds), .int .i64 (Int.ofNat ds.length), .int .i64 (Int.ofNat q.1)], [.cells true 103 7 [.int .u8 op, .int .u8 sub, .int .u8 pl, .int .u32 fi, .int .u8 ct, .fsl la ln lv, .fsl da dn dv]]))
      (fun q => (.ret, (fwL.at fw1).st ([.ptr (some (0, 0)), .bool false, .fsl db ds.length (encD ds), .int .i64 (Int.ofNat ds.length), .int .i64 (Int.ofNat (badD p450 (encD ds)))], [.cells true 103 7 [.int .u8 op, .int .u8 sub, .int .u8 pl, .int .u32 fi, .int .u8 ct, .fsl la ln lv, .fsl da dn dv]]))) (fun q => ds.length - q.1) (fun q => by
      obtain ⟨i, hi⟩ := q
      simp only
      by_cases hlt : i < badD p450 (encD ds)
      · refine .inl ⟨⟨i + 1, hlt⟩, ?_, trivial, by simp only; omega⟩
        obtain ⟨x, hx⟩ : ∃ x, ds[i]? = some x := ⟨_, List.getElem?_eq_getElem (by omega)⟩
        have hg := badD_before hlt hx
        have e1 : (listAt (List.drop ((Int.ofNat i).toNat * 1) (encD ds)) 0).getD AV.undef = .fsl x.1 x.2.length (ofBytes x.2) := encD_at ds i x hx
        have k0 : iltB (Int.ofNat i) (Int.ofNat ds.length) = true := by rw [iltB_eq]; exact decide_eq_true (by show ((i : Nat) : Int) < (ds.length : Int); omega)
        have hw : wrapA .i64 ((Int.ofNat i).add (Int.ofNat 1)) = Int.ofNat (i + 1) := wrapA_nat .i64 (i + 1) (by show _ < 9223372036854775808; omega)
        have lc : iltB (Int.ofNat 450) (Int.ofNat x.2.length) = false := by rw [iltB_eq]; exact decide_eq_false (by have := Nat.le_of_ble_eq_true hg; show ¬ ((450 : Nat) : Int) < (x.2.length : Int); omega)
        have key := fw_r op sub pl fi ct la ln lv da dn dv db ds.length (encD ds) ds.length i
        iterate 9
         replace key := key (by
          (try simp only [e1, k0, AV.fslLen, AV.isFsl, lc])
          first
           | done
           | with_reducible rfl
           | with_reducible exact encD_plainL _
           | with_reducible exact q1
           | with_reducible exact q2
           | (simp [nble, encD_length]; omega)
           | (simp [nbeq, encD_length]; done)
           | (simp [nble, encD_length]; done))
        try simp only [hw] at key
        exact key
      · have hi : i = badD p450 (encD ds) := by omega
        refine .inr ⟨?_, by simp⟩
        obtain ⟨x, hx⟩ : ∃ x, ds[i]? = some x := ⟨_, List.getElem?_eq_getElem (by omega)⟩
        have hg : p450 x.2.length = false := badD_at c6 (by rw [← hi]; exact hx)
        rw [← hi]
        have e1 : (listAt (List.drop ((Int.ofNat i).toNat * 1) (encD ds)) 0).getD AV.undef = .fsl x.1 x.2.length (ofBytes x.2) := encD_at ds i x hx
        have k0 : iltB (Int.ofNat i) (Int.ofNat ds.length) = true := by rw [iltB_eq]; exact decide_eq_true (by show ((i : Nat) : Int) < (ds.length : Int); omega)
        have hw : wrapA .i64 ((Int.ofNat i).add (Int.ofNat 1)) = Int.ofNat (i + 1) := wrapA_nat .i64 (i + 1) (by show _ < 9223372036854775808; omega)
        have lc : iltB (Int.ofNat 450) (Int.ofNat x.2.length) = true := by rw [iltB_eq]; exact decide_eq_true (by have h9 : ¬ x.2.length ≤ 450 := fun h => (by rw [p450, Nat.ble_eq_true_of_le h] at hg; cases hg); show ((450 : Nat) : Int) < (x.2.length : Int); omega)
        have key := fw_b op sub pl fi ct la ln lv da dn dv db ds.length (encD ds) ds.length i
        iterate 9
         replace key := key (by
          (try simp only [e1, k0, AV.fslLen, AV.isFsl, lc])
          first
           | done
           | with_reducible rfl
           | with_reducible exact encD_plainL _
           | with_reducible exact q1
           | with_reducible exact q2
           | (simp [nble, encD_length]; omega)
           | (simp [nbeq, encD_length]; done)
           | (simp [nble, encD_length]; done))
        try simp only [hw] at key
        exact key) ⟨0, Nat.zero_le _⟩
     exact CodeOK.block 0 key
   · cases h
def ixT : List AV × List Blk → Bool := fun x => match x.1 with
 | [.fsl _ _ dw, _, _, _, _] => okD p440 dw
 | _ => false
def ix0 : List AV × List Blk → Option (List Bool × AX × List AV × List Blk) := fun x => match x with
 | ([.fsl db dm dw, .func 107 [] [], .int .i64 z, .int .i64 (.ofNat m), .int .i64 (.ofNat i)], []) =>
  some ([isD dw, Nat.beq dw.length dm, Nat.beq m dm, Nat.beq i 0, Nat.ble dm 1099511627776, okD p440 dw], .normal, [.fsl db dm dw, .func 107 [] [], .int .i64 z, .int .i64 (Int.ofNat dm), .int .i64 (Int.ofNat dm)], [])
 | _ => none
def ix1 : List AV × List Blk → Option (List Bool × AX × List AV × List Blk) := fun x => match x with
 | ([.fsl db dm dw, .func 107 [] [], .int .i64 z, .int .i64 (.ofNat m), .int .i64 (.ofNat i)], []) =>
  some ([isD dw, Nat.beq dw.length dm, Nat.beq m dm, Nat.beq i 0, Nat.ble dm 1099511627776, !okD p440 dw], .ret, [.fsl db dm dw, .func 107 [] [], .int .i64 (Int.ofNat (badD p440 dw)), .int .i64 (Int.ofNat dm), .int .i64 (Int.ofNat (badD p440 dw))], [])
 | _ => none
def ixL : ZLT := ⟨19, blockOf Try.f108 0, [0, 1, 4, 7, 8], 0, [], .node ixT (.leaf ix0) (.leaf ix1)⟩
theorem ixL_ok : ixL.OK Try.prog (tyCx tys) (flOf tys) 0 := by
 refine ⟨?_, ?_⟩
 · intro vs bs conds X vs' bs' h hc hin
   have h : ix0 (vs, bs) = some (conds, X, vs', bs') := h
   unfold ix0 at h
   split at h
   · rename_i db dm dw z m i he
     injection he with he1 he2
     subst he1; subst he2
     injection h with h; injection h with e1 h; injection h with e2 h; injection h with e3 e4
     subst e1; subst e2; subst e3; subst e4
     simp only [allTrue_cons] at hc
     obtain ⟨c1, c2, c3, c4, c5, c6, _⟩ := hc
     have q1 : True := trivial
     have q2 : True := trivial
     obtain ⟨ds, rfl⟩ := isD_iff.1 c1
     have c2 := eq_of_beq' c2
     have c3 := eq_of_beq' c3
     have c4 := eq_of_beq' c4
     rw [encD_length] at c2
     subst c3; subst c4; subst c2
     have c5 := Nat.le_of_ble_eq_true c5
     have key := CodeOK.loop (P := Try.prog) (cx := tyCx tys) (nn := 19) (n0 := 0) (b := roundOf (blockOf Try.f108 0)) (fun q : {i : Nat // i ≤ ds.length} => (ixL.at ix0).st ([.fsl db ds.length (encD ds), .func 107 [] [], .int .i64 z, .int .i64 (Int.ofNat ds.length), .int .i64 (Int.ofNat q.1)], []))
      (fun q => (.exit 0, (ixL.at ix0).st ([.fsl db ds.length (encD ds), .func 107 [] [], .int .i64 z, .int .i64 (Int.ofNat ds.length), .int .i64 (Int.ofNat ds.length)], []))) (fun q => ds.length - q.1) (fun q => by
      obtain ⟨i, hi⟩ := q
      simp only
      by_cases hlt : i < ds.length
      · refine .inl ⟨⟨i + 1, hlt⟩, ?_, trivial, by simp only; omega⟩
        obtain ⟨x, hx⟩ : ∃ x, ds[i]? = some x := ⟨_, List.getElem?_eq_getElem hlt⟩
        have hg := okD_at c6 hx
        have e1 : (listAt (List.drop ((Int.ofNat i).toNat * 1) (encD ds)) 0).getD AV.undef = .fsl x.1 x.2.length (ofBytes x.2) := encD_at ds i x hx
        have k0 : iltB (Int.ofNat i) (Int.ofNat ds.length) = true := by rw [iltB_eq]; exact decide_eq_true (by show ((i : Nat) : Int) < (ds.length : Int); omega)
        have hw : wrapA .i64 ((Int.ofNat i).add (Int.ofNat 1)) = Int.ofNat (i + 1) := wrapA_nat .i64 (i + 1) (by show _ < 9223372036854775808; omega)
        have lc : (!ieqB (Int.ofNat x.2.length) (Int.ofNat 440)) = false := by rw [Nat.eq_of_beq_eq_true hg]; rfl
        have key := ix_r db ds.length (encD ds) ds.length i z
        iterate 7
         replace key := key (by
          (try simp only [e1, k0, AV.fslLen, AV.isFsl, lc])
          first
           | done
           | with_reducible rfl
           | with_reducible exact encD_plainL _
           | with_reducible exact q1
           | with_reducible exact q2
           | (simp [nble, encD_length]; omega)
           | (simp [nbeq, encD_length]; done)
           | (simp [nble, encD_length]; done))
        try simp only [hw] at key
        exact key
      · have hi : i = ds.length := by omega
        subst hi
        refine .inr ⟨?_, by simp⟩
        have k0 : iltB (Int.ofNat ds.length) (Int.ofNat ds.length) = false := by rw [iltB_eq]; exact decide_eq_false (by show ¬ (ds.length : Int) < (ds.length : Int); omega)
        exact ix_e db ds.length (encD ds) ds.length ds.length z k0 (encD_plainL _)) ⟨0, Nat.zero_le _⟩
     exact CodeOK.block 0 key
   · cases h
 · intro vs bs conds X vs' bs' h hc hin
   have h : ix1 (vs, bs) = some (conds, X, vs', bs') := h
   unfold ix1 at h
   split at h
   · rename_i db dm dw z m i he
     injection he with he1 he2
     subst he1; subst he2
     injection h with h; injection h with e1 h; injection h with e2 h; injection h with e3 e4
     subst e1; subst e2; subst e3; subst e4
     simp only [allTrue_cons] at hc
     obtain ⟨c1, c2, c3, c4, c5, c6, _⟩ := hc
     have q1 : True := trivial
     have q2 : True := trivial
     obtain ⟨ds, rfl⟩ := isD_iff.1 c1
     have c2 := eq_of_beq' c2
     have c3 := eq_of_beq' c3
     have c4 := eq_of_beq' c4
     rw [encD_length] at c2
     subst c3; subst c4; subst c2
     have c5 := Nat.le_of_ble_eq_true c5
     have c6 : okD p440 (encD ds) = false := by simpa using c6
     have hk := badD_lt c6
     have key := CodeOK.loop (P := Try.prog) (cx := tyCx tys) (nn := 19) (n0 := 0) (b := roundOf (blockOf Try.f108 0)) (fun q : {i : Nat // i ≤ badD p440 (encD ds)} => (ixL.at ix1).st ([.fsl db ds.length (encD ds), .func 107 [] [], .int .i64 z, .int .i64 (Int.ofNat ds.length), .int .i64 (Int.ofNat q.1)], []))
      (fun q => (.ret, (ixL.at ix1).st ([.fsl db ds.length (encD ds), .func 107 [] [], .int .i64 (Int.ofNat (badD p440 (encD ds))), .int .i64 (Int.ofNat ds.length), .int .i64 (Int.ofNat (badD p440 (encD ds)))], []))) (fun q => ds.length - q.1) (fun q => by
      obtain ⟨i, hi⟩ := q
      simp only
      by_cases hlt : i < badD p440 (encD ds)
      · refine .inl ⟨⟨i + 1, hlt⟩, ?_, trivial, by simp only; omega⟩
        obtain ⟨x, hx⟩ : ∃ x, ds[i]? = some x := ⟨_, List.getElem?_eq_getElem (by omega)⟩
        have hg := badD_before hlt hx
        have e1 : (listAt (List.drop ((Int.ofNat i).toNat * 1) (encD ds)) 0).getD AV.undef = .fsl x.1 x.2.length (ofBytes x.2) := encD_at ds i x hx
        have k0 : iltB (Int.ofNat i) (Int.ofNat ds.length) = true := by rw [iltB_eq]; exact decide_eq_true (by show ((i : Nat) : Int) < (ds.length : Int); omega)
        have hw : wrapA .i64 ((Int.ofNat i).add (Int.ofNat 1)) = Int.ofNat (i + 1) := wrapA_nat .i64 (i + 1) (by show _ < 9223372036854775808; omega)
        have lc : (!ieqB (Int.ofNat x.2.length) (Int.ofNat 440)) = false := by rw [Nat.eq_of_beq_eq_true hg]; rfl
        have key := ix_r db ds.length (encD ds) ds.length i z
        iterate 7
         replace key := key (by
          (try simp only [e1, k0, AV.fslLen, AV.isFsl, lc])
          first
           | done
           | with_reducible rfl
           | with_reducible exact encD_plainL _
           | with_reducible exact q1
           | with_reducible exact q2
           | (simp [nble, encD_length]; omega)
           | (simp [nbeq, encD_length]; done)
           | (simp [nble, encD_length]; done))
        try simp only [hw] at key
        exact key
      · have hi : i = badD p440 (encD ds) := by omega
        refine .inr ⟨?_, by simp⟩
        obtain ⟨x, hx⟩ : ∃ x, ds[i]? = some x := ⟨_, List.getElem?_eq_getElem (by omega)⟩
        have hg : p440 x.2.length = false := badD_at c6 (by rw [← hi]; exact hx)
        rw [← hi]
        have e1 : (listAt (List.drop ((Int.ofNat i).toNat * 1) (encD ds)) 0).getD AV.undef = .fsl x.1 x.2.length (ofBytes x.2) := encD_at ds i x hx
        have k0 : iltB (Int.ofNat i) (Int.ofNat ds.length) = true := by rw [iltB_eq]; exact decide_eq_true (by show ((i : Nat) : Int) < (ds.length : Int); omega)
        have hw : wrapA .i64 ((Int.ofNat i).add (Int.ofNat 1)) = Int.ofNat (i + 1) := wrapA_nat .i64 (i + 1) (by show _ < 9223372036854775808; omega)
        have lc : (!ieqB (Int.ofNat x.2.length) (Int.ofNat 440)) = true := by have h9 : x.2.length ≠ 440 := fun h => (by rw [h] at hg; cases hg); rw [ieqB_eq, beq_eq_false_iff_ne.2 (fun h => h9 (by injection h))]; rfl
        have key := ix_b db ds.length (encD ds) ds.length i z
        iterate 7
         replace key := key (by
          (try simp only [e1, k0, AV.fslLen, AV.isFsl, lc])
          first
           | done
           | with_reducible rfl
           | with_reducible exact encD_plainL _
           | with_reducible exact q1
           | with_reducible exact q2
           | (simp [nble, encD_length]; omega)
           | (simp [nbeq, encD_length]; done)
           | (simp [nble, encD_length]; done))
        try simp only [hw] at key
        exact key) ⟨0, Nat.zero_le _⟩
     exact CodeOK.block 0 key
   · cases h
end Go.Proofs.Ytecncappdnhbaaa
end
end

section
noncomputable section
namespace Go.Proofs.Ytecncappdnhbaaa
open Go.Ab.M Go.Ab Go
def K10a : Known := { t := T9a, l := [((56, 0), fwL), ((108, 0), ixL)] }
theorem K10a_ok : KOK Try.prog tys K10a := ⟨T9a_ok, trivial, trivial, trivial, ⟨fwL_ok, ixL_ok, trivial⟩⟩
abbrev C10a := mkCxZ tys fns K10a
theorem all10a : SumAll Try.prog C10a := sums_allZ K10a_ok
end Go.Proofs.Ytecncappdnhbaaa
end
end

section
noncomputable section
namespace Go.Ab.M
def RightP (op sub pl fi ct : Int) (ln dn : Nat) : Prop :=
 1 ≤ op ∧ op < 8 ∧ (op = 1 → 1 ≤ ct ∧ ct ≤ 16 ∧ ln = 0) ∧ (op ≠ 1 → ct = 0 ∧ fi = 0) ∧ ((op = 2 ∨ op = 3) → 0 < ln) ∧ (0 < ln → op = 2 ∨ op = 3) ∧ ln ≤ 16 ∧ (op = 2 → dn = ln) ∧ (op ≠ 2 → dn = 0) ∧ sub < 3 ∧ (0 < sub → 5 ≤ op) ∧ (0 < pl → op = 7 ∧ sub = 0)
instance (op sub pl fi ct : Int) (ln dn : Nat) : Decidable (RightP op sub pl fi ct ln dn) := by unfold RightP; infer_instance
def rightB (op sub pl fi ct : Int) (ln dn : Nat) (dv : List AV) : Bool := decide (RightP op sub pl fi ct ln dn) && okD p440 dv
end Go.Ab.M
namespace Go.Proofs.Ytecncappdnhbaaa
open Go.Ab.M Go.Ab Go
theorem rightB_no {op sub pl fi ct : Int} {ln dn : Nat} {dv : List AV} (h : ¬ RightP op sub pl fi ct ln dn) : rightB op sub pl fi ct ln dn dv = false := by
 unfold rightB; rw [decide_eq_false h]; rfl
theorem rightB_so {op sub pl fi ct : Int} {ln dn : Nat} {dv : List AV} (h : RightP op sub pl fi ct ln dn) : rightB op sub pl fi ct ln dn dv = okD p440 dv := by
 unfold rightB; rw [decide_eq_true h]; exact Bool.true_and _
abbrev rE (op sub pl fi ct : Int) (la : Bool) (ln : Nat) (lv : List AV) (da : Bool) (dn : Nat) (dv : List AV) (b : Bool) : Prop := ∃ h', aCall C10a 60 (Tgt.fn 95) [.agg [.int .u8 op, .int .u8 sub, .int .u8 pl, .int .u32 fi, .int .u8 ct, .fsl la ln lv, .fsl da dn dv]] H0 = some (AV.bool b, h') ∧ [].map h'.get = []
abbrev rG (op sub pl fi ct : Int) (la : Bool) (ln : Nat) (lv : List AV) (da : Bool) (dn : Nat) (dv : List AV) : Prop := ∃ h', aCall C10a 60 (Tgt.fn 95) [.agg [.int .u8 op, .int .u8 sub, .int .u8 pl, .int .u32 fi, .int .u8 ct, .fsl la ln lv, .fsl da dn dv]] H0 = some (AV.bool (rightB op sub pl fi ct ln dn dv), h')
theorem SL : (∀ a b : Int, (ieqB a b = true) = (a = b)) ∧ (∀ a b : Int, (ieqB a b = false) = (a ≠ b)) ∧ (∀ a b : Int, (iltB a b = true) = (a < b)) ∧ (∀ a b : Int, (iltB a b = false) = ¬ (a < b)) ∧ (∀ a b : Int, (ileB a b = true) = (a ≤ b)) ∧ (∀ a b : Int, (ileB a b = false) = ¬ (a ≤ b)) ∧ (∀ b : Bool, ((!b) = true) = (b = false)) ∧ (∀ b : Bool, ((!b) = false) = (b = true)) ∧ (∀ b : Bool, (true == b) = b) ∧ (∀ b : Bool, (false == b) = !b) ∧ (∀ k n, (AV.int k n).intOf = n) ∧ (∀ n : Nat, Int.ofNat n = (n : Int)) := by
 refine ⟨fun a b => ?_, fun a b => ?_, fun a b => ?_, fun a b => ?_, fun a b => ?_, fun a b => ?_, fun b => ?_, fun b => ?_, fun b => ?_, fun b => ?_, fun _ _ => rfl, fun _ => rfl⟩
 · rw [ieqB_eq, beq_iff_eq]
 · rw [ieqB_eq, beq_eq_false_iff_ne]
 · rw [iltB_eq, decide_eq_true_eq]
 · rw [iltB_eq, decide_eq_false_iff_not]
 · rw [ileB_eq, decide_eq_true_eq]
 · rw [ileB_eq, decide_eq_false_iff_not]
 all_goals cases b <;> simp
section
variable {op sub pl fi ct : Int} {la : Bool} {ln : Nat} {lv : List AV} {da : Bool} {dn : Nat} {dv : List AV}
theorem rNo (h : rE op sub pl fi ct la ln lv da dn dv false) (k : ¬ RightP op sub pl fi ct ln dn) : rG op sub pl fi ct la ln lv da dn dv := by
 obtain ⟨h', h, _⟩ := h; unfold rG; rw [rightB_no k]; exact ⟨h', h⟩
theorem rSo {b : Bool} (h : rE op sub pl fi ct la ln lv da dn dv b) (k : RightP op sub pl fi ct ln dn) (o : okD p440 dv = b) : rG op sub pl fi ct la ln lv da dn dv := by
 obtain ⟨h', h, _⟩ := h; unfold rG; rw [rightB_so k, o]; exact ⟨h', h⟩
end
section
variable {sub pl fi ct : Int} {la : Bool} {ln : Nat} {lv : List AV} {da : Bool} {dn : Nat} {dv : List AV}
theorem r1_f (h0 : (ileB (Int.ofNat 1) (wrapA IntKind.i64 ct)) = false) :
 rE (Int.ofNat 1) sub pl fi ct la ln lv da dn dv (false) :=
 call_runZ (q := qNs [26,1,1,1,16]) (c := (cnF :: cnF :: cnF :: [])) (by kernel_rfl) ⟨h0, h0, h0, trivial⟩
theorem r1_tt (h0 : (ileB (Int.ofNat 1) (wrapA IntKind.i64 ct)) = true) (h1 : (!ileB (wrapA IntKind.i64 ct) (Int.ofNat 16)) = true) :
 rE (Int.ofNat 1) sub pl fi ct la ln lv da dn dv (false) :=
 call_runZ (q := qNs [26,0,0,0,4,0,0,3,0,10]) (c := (cnT :: cnT :: cnT :: cnT :: cnT :: cnT :: [])) (by kernel_rfl) ⟨h0, h0, h0, h1, h1, h1, trivial⟩
theorem r1_tft (h0 : (ileB (Int.ofNat 1) (wrapA IntKind.i64 ct)) = true) (h1 : (!ileB (wrapA IntKind.i64 ct) (Int.ofNat 16)) = false) (h2 : (iltB (Int.ofNat 0) (Int.ofNat ln)) = true) :
 rE (Int.ofNat 1) sub pl fi ct la ln lv da dn dv (false) :=
 call_runZ (q := qNs [26,0,0,0,4,1,1,3,1,3,0,0,0,0,0,0,3]) (c := (cnT :: cnT :: cnT :: cnF :: cnF :: cnF :: cnT :: cnT :: cnT :: cnT :: cnT :: cnT :: [])) (by kernel_rfl) ⟨h0, h0, h0, h1, h1, h1, h2, h2, h2, h2, h2, h2, trivial⟩
theorem r1_tfft (h0 : (ileB (Int.ofNat 1) (wrapA IntKind.i64 ct)) = true) (h1 : (!ileB (wrapA IntKind.i64 ct) (Int.ofNat 16)) = false) (h2 : (iltB (Int.ofNat 0) (Int.ofNat ln)) = false) (h3 : (!false == iltB (Int.ofNat 0) (Int.ofNat ln)) = true) :
 rE (Int.ofNat 1) sub pl fi ct la ln lv da dn dv (false) :=
 call_runZ (q := qNs [26,0,0,0,4,1,1,3,1,3,1,1,5,1,1,7,1,3,1,13,0,0,0,3]) (c := (cnT :: cnT :: cnT :: cnF :: cnF :: cnF :: cnF :: cnF :: cnF :: cnF :: cnF :: cnF :: cnT :: cnT :: cnT :: [])) (by kernel_rfl) ⟨h0, h0, h0, h1, h1, h1, h2, h2, h2, h2, h2, h2, h3, h3, h3, trivial⟩
theorem r1_tffft (h0 : (ileB (Int.ofNat 1) (wrapA IntKind.i64 ct)) = true) (h1 : (!ileB (wrapA IntKind.i64 ct) (Int.ofNat 16)) = false) (h2 : (iltB (Int.ofNat 0) (Int.ofNat ln)) = false) (h3 : (!false == iltB (Int.ofNat 0) (Int.ofNat ln)) = false) (h4 : (iltB (Int.ofNat 16) (Int.ofNat ln)) = true) :
 rE (Int.ofNat 1) sub pl fi ct la ln lv da dn dv (false) :=
 call_runZ (q := qNs [26,0,0,0,4,1,1,3,1,3,1,1,5,1,1,7,1,3,1,13,1,1,1,0]) (c := (cnT :: cnT :: cnT :: cnF :: cnF :: cnF :: cnF :: cnF :: cnF :: cnF :: cnF :: cnF :: cnF :: cnF :: cnF :: cnT :: [])) (by kernel_rfl) ⟨h0, h0, h0, h1, h1, h1, h2, h2, h2, h2, h2, h2, h3, h3, h3, h4, trivial⟩
theorem r1_tfffft (h0 : (ileB (Int.ofNat 1) (wrapA IntKind.i64 ct)) = true) (h1 : (!ileB (wrapA IntKind.i64 ct) (Int.ofNat 16)) = false) (h2 : (iltB (Int.ofNat 0) (Int.ofNat ln)) = false) (h3 : (!false == iltB (Int.ofNat 0) (Int.ofNat ln)) = false) (h4 : (iltB (Int.ofNat 16) (Int.ofNat ln)) = false) (h5 : (iltB (Int.ofNat 0) (Int.ofNat dn)) = true) :
 rE (Int.ofNat 1) sub pl fi ct la ln lv da dn dv (false) :=
 call_runZ (q := qNs [26,0,0,0,4,1,1,3,1,3,1,1,5,1,1,7,1,3,1,13,1,1,1,1,28,0]) (c := (cnT :: cnT :: cnT :: cnF :: cnF :: cnF :: cnF :: cnF :: cnF :: cnF :: cnF :: cnF :: cnF :: cnF :: cnF :: cnF :: cnT :: [])) (by kernel_rfl) ⟨h0, h0, h0, h1, h1, h1, h2, h2, h2, h2, h2, h2, h3, h3, h3, h4, h5, trivial⟩
theorem r1_tffffft (h0 : (ileB (Int.ofNat 1) (wrapA IntKind.i64 ct)) = true) (h1 : (!ileB (wrapA IntKind.i64 ct) (Int.ofNat 16)) = false) (h2 : (iltB (Int.ofNat 0) (Int.ofNat ln)) = false) (h3 : (!false == iltB (Int.ofNat 0) (Int.ofNat ln)) = false) (h4 : (iltB (Int.ofNat 16) (Int.ofNat ln)) = false) (h5 : (iltB (Int.ofNat 0) (Int.ofNat dn)) = false) (h6 : (ileB (Int.ofNat 3) sub) = true) :
 rE (Int.ofNat 1) sub pl fi ct la ln lv da dn dv (false) :=
 call_runZ (q := qNs [26,0,0,0,4,1,1,3,1,3,1,1,5,1,1,7,1,3,1,13,1,1,1,1,28,1,5,0,0,0,0,0,0,3]) (c := (cnT :: cnT :: cnT :: cnF :: cnF :: cnF :: cnF :: cnF :: cnF :: cnF :: cnF :: cnF :: cnF :: cnF :: cnF :: cnF :: cnF :: cnT :: cnT :: cnT :: cnT :: cnT :: cnT :: [])) (by kernel_rfl) ⟨h0, h0, h0, h1, h1, h1, h2, h2, h2, h2, h2, h2, h3, h3, h3, h4, h5, h6, h6, h6, h6, h6, h6, trivial⟩
theorem r1_tfffffft (h0 : (ileB (Int.ofNat 1) (wrapA IntKind.i64 ct)) = true) (h1 : (!ileB (wrapA IntKind.i64 ct) (Int.ofNat 16)) = false) (h2 : (iltB (Int.ofNat 0) (Int.ofNat ln)) = false) (h3 : (!false == iltB (Int.ofNat 0) (Int.ofNat ln)) = false) (h4 : (iltB (Int.ofNat 16) (Int.ofNat ln)) = false) (h5 : (iltB (Int.ofNat 0) (Int.ofNat dn)) = false) (h6 : (ileB (Int.ofNat 3) sub) = false) (h7 : (iltB (Int.ofNat 0) sub) = true) :
 rE (Int.ofNat 1) sub pl fi ct la ln lv da dn dv (false) :=
 call_runZ (q := qNs [26,0,0,0,4,1,1,3,1,3,1,1,5,1,1,7,1,3,1,13,1,1,1,1,28,1,5,1,1,5,1,1,0,17,0,9,0,1,0,1,3]) (c := (cnT :: cnT :: cnT :: cnF :: cnF :: cnF :: cnF :: cnF :: cnF :: cnF :: cnF :: cnF :: cnF :: cnF :: cnF :: cnF :: cnF :: cnF :: cnF :: cnF :: cnF :: cnT :: cnT :: cnT :: cnF :: cnT :: cnF :: [])) (by kernel_rfl) ⟨h0, h0, h0, h1, h1, h1, h2, h2, h2, h2, h2, h2, h3, h3, h3, h4, h5, h6, h6, h6, h6, h7, h7, h7, h6, h7, h6, trivial⟩
theorem r1_tffffffft (h0 : (ileB (Int.ofNat 1) (wrapA IntKind.i64 ct)) = true) (h1 : (!ileB (wrapA IntKind.i64 ct) (Int.ofNat 16)) = false) (h2 : (iltB (Int.ofNat 0) (Int.ofNat ln)) = false) (h3 : (!false == iltB (Int.ofNat 0) (Int.ofNat ln)) = false) (h4 : (iltB (Int.ofNat 16) (Int.ofNat ln)) = false) (h5 : (iltB (Int.ofNat 0) (Int.ofNat dn)) = false) (h6 : (ileB (Int.ofNat 3) sub) = false) (h7 : (iltB (Int.ofNat 0) sub) = false) (h8 : (iltB (Int.ofNat 0) pl) = true) :
 rE (Int.ofNat 1) sub pl fi ct la ln lv da dn dv (false) :=
 call_runZ (q := qNs [26,0,0,0,4,1,1,3,1,3,1,1,5,1,1,7,1,3,1,13,1,1,1,1,28,1,5,1,1,5,1,1,1,1,1,1,1,1,6,0,0,5,0,0,5,0,3,0,3]) (c := (cnT :: cnT :: cnT :: cnF :: cnF :: cnF :: cnF :: cnF :: cnF :: cnF :: cnF :: cnF :: cnF :: cnF :: cnF :: cnF :: cnF :: cnF :: cnF :: cnF :: cnF :: cnF :: cnF :: cnF :: cnF :: cnF :: cnF :: cnT :: cnT :: cnT :: cnT :: cnT :: cnT :: [])) (by kernel_rfl) ⟨h0, h0, h0, h1, h1, h1, h2, h2, h2, h2, h2, h2, h3, h3, h3, h4, h5, h6, h6, h6, h6, h7, h7, h7, h6, h7, h6, h8, h8, h8, h8, h8, h8, trivial⟩
theorem r1_tfffffffft (h0 : (ileB (Int.ofNat 1) (wrapA IntKind.i64 ct)) = true) (h1 : (!ileB (wrapA IntKind.i64 ct) (Int.ofNat 16)) = false) (h2 : (iltB (Int.ofNat 0) (Int.ofNat ln)) = false) (h3 : (!false == iltB (Int.ofNat 0) (Int.ofNat ln)) = false) (h4 : (iltB (Int.ofNat 16) (Int.ofNat ln)) = false) (h5 : (iltB (Int.ofNat 0) (Int.ofNat dn)) = false) (h6 : (ileB (Int.ofNat 3) sub) = false) (h7 : (iltB (Int.ofNat 0) sub) = false) (h8 : (iltB (Int.ofNat 0) pl) = false) (h9 : (okD p440 dv) = true) (h10 : (AV.plainL dv) = true) (h11 : (isD dv) = true) (h12 : (dv.length.beq dn) = true) (h13 : (dn.beq dn) = true) (h14 : (dn.ble 1099511627776) = true) :
 rE (Int.ofNat 1) sub pl fi ct la ln lv da dn dv (true) :=
 call_runZ (q := qNs [26,0,0,0,4,1,1,3,1,3,1,1,5,1,1,7,1,3,1,13,1,1,1,1,28,1,5,1,1,5,1,1,1,1,1,1,1,1,6,1,1,1,1,1,1,6,0,4,0,0,0,0,0,3,0,0,3,0]) (c := (cnT :: cnT :: cnT :: cnF :: cnF :: cnF :: cnF :: cnF :: cnF :: cnF :: cnF :: cnF :: cnF :: cnF :: cnF :: cnF :: cnF :: cnF :: cnF :: cnF :: cnF :: cnF :: cnF :: cnF :: cnF :: cnF :: cnF :: cnF :: cnF :: cnF :: cnF :: cnF :: cnF :: Cnd.code (ZLT.lsumS (flOf tys) ((108, 0), ixL).snd).fst (ZLT.lsumS (flOf tys) ((108, 0), ixL).snd).fst :: cnT :: cnT :: cnT :: cnT :: cnT :: cnT :: cnT :: cnT :: cnT :: [])) (by kernel_rfl) ⟨h0, h0, h0, h1, h1, h1, h2, h2, h2, h2, h2, h2, h3, h3, h3, h4, h5, h6, h6, h6, h6, h7, h7, h7, h6, h7, h6, h8, h8, h8, h8, h8, h8, rfl, h9, h10, h10, h11, h12, h13, h14, h9, h10, trivial⟩
theorem r1_tfffffffff (h0 : (ileB (Int.ofNat 1) (wrapA IntKind.i64 ct)) = true) (h1 : (!ileB (wrapA IntKind.i64 ct) (Int.ofNat 16)) = false) (h2 : (iltB (Int.ofNat 0) (Int.ofNat ln)) = false) (h3 : (!false == iltB (Int.ofNat 0) (Int.ofNat ln)) = false) (h4 : (iltB (Int.ofNat 16) (Int.ofNat ln)) = false) (h5 : (iltB (Int.ofNat 0) (Int.ofNat dn)) = false) (h6 : (ileB (Int.ofNat 3) sub) = false) (h7 : (iltB (Int.ofNat 0) sub) = false) (h8 : (iltB (Int.ofNat 0) pl) = false) (h9 : (okD p440 dv) = false) (h10 : (AV.plainL dv) = true) (h11 : (isD dv) = true) (h12 : (dv.length.beq dn) = true) (h13 : (dn.beq dn) = true) (h14 : (dn.ble 1099511627776) = true) (h15 : (!okD p440 dv) = true) :
 rE (Int.ofNat 1) sub pl fi ct la ln lv da dn dv (!ileB (Int.ofNat 0) (Int.ofNat (badD p440 dv))) :=
 call_runZ (q := qNs [26,0,0,0,4,1,1,3,1,3,1,1,5,1,1,7,1,3,1,13,1,1,1,1,28,1,5,1,1,5,1,1,1,1,1,1,1,1,6,1,1,1,1,1,1,6,1,4,0,0,0,0,0,3,0,0,3,0]) (c := (cnT :: cnT :: cnT :: cnF :: cnF :: cnF :: cnF :: cnF :: cnF :: cnF :: cnF :: cnF :: cnF :: cnF :: cnF :: cnF :: cnF :: cnF :: cnF :: cnF :: cnF :: cnF :: cnF :: cnF :: cnF :: cnF :: cnF :: cnF :: cnF :: cnF :: cnF :: cnF :: cnF :: Cnd.code (ZLT.lsumS (flOf tys) ((108, 0), ixL).snd).fst (ZLT.lsumS (flOf tys) ((108, 0), ixL).snd).fst :: cnF :: cnT :: cnT :: cnT :: cnT :: cnT :: cnT :: cnT :: cnT :: [])) (by kernel_rfl) ⟨h0, h0, h0, h1, h1, h1, h2, h2, h2, h2, h2, h2, h3, h3, h3, h4, h5, h6, h6, h6, h6, h7, h7, h7, h6, h7, h6, h8, h8, h8, h8, h8, h8, rfl, h9, h10, h10, h11, h12, h13, h14, h15, h10, trivial⟩
theorem r2_t (h0 : (!ieqB ct (Int.ofNat 0)) = true) :
 rE (Int.ofNat 2) sub pl fi ct la ln lv da dn dv (false) :=
 call_runZ (q := qNs [41,0,0,0,3,0,6]) (c := (cnT :: cnT :: cnT :: cnT :: [])) (by kernel_rfl) ⟨h0, h0, h0, h0, trivial⟩
theorem r2_ft (h0 : (!ieqB ct (Int.ofNat 0)) = false) (h1 : (!ieqB fi (Int.ofNat 0)) = true) :
 rE (Int.ofNat 2) sub pl fi ct la ln lv da dn dv (false) :=
 call_runZ (q := qNs [41,1,1,5,1,3,1,5,0]) (c := (cnF :: cnF :: cnF :: cnF :: cnT :: [])) (by kernel_rfl) ⟨h0, h0, h0, h0, h1, trivial⟩
theorem r2_fft (h0 : (!ieqB ct (Int.ofNat 0)) = false) (h1 : (!ieqB fi (Int.ofNat 0)) = false) (h2 : (!true == iltB (Int.ofNat 0) (Int.ofNat ln)) = true) :
 rE (Int.ofNat 2) sub pl fi ct la ln lv da dn dv (false) :=
 call_runZ (q := qNs [41,1,1,5,1,3,1,5,1,9,0,0,0,3]) (c := (cnF :: cnF :: cnF :: cnF :: cnF :: cnT :: cnT :: cnT :: [])) (by kernel_rfl) ⟨h0, h0, h0, h0, h1, h2, h2, h2, trivial⟩
theorem r2_ffft (h0 : (!ieqB ct (Int.ofNat 0)) = false) (h1 : (!ieqB fi (Int.ofNat 0)) = false) (h2 : (!true == iltB (Int.ofNat 0) (Int.ofNat ln)) = false) (h3 : (iltB (Int.ofNat 16) (Int.ofNat ln)) = true) :
 rE (Int.ofNat 2) sub pl fi ct la ln lv da dn dv (false) :=
 call_runZ (q := qNs [41,1,1,5,1,3,1,5,1,9,1,1,1,0]) (c := (cnF :: cnF :: cnF :: cnF :: cnF :: cnF :: cnF :: cnF :: cnT :: [])) (by kernel_rfl) ⟨h0, h0, h0, h0, h1, h2, h2, h2, h3, trivial⟩
theorem r2_fffft (h0 : (!ieqB ct (Int.ofNat 0)) = false) (h1 : (!ieqB fi (Int.ofNat 0)) = false) (h2 : (!true == iltB (Int.ofNat 0) (Int.ofNat ln)) = false) (h3 : (iltB (Int.ofNat 16) (Int.ofNat ln)) = false) (h4 : (!ieqB (Int.ofNat dn) (Int.ofNat ln)) = true) :
 rE (Int.ofNat 2) sub pl fi ct la ln lv da dn dv (false) :=
 call_runZ (q := qNs [41,1,1,5,1,3,1,5,1,9,1,1,1,1,14,0,0,0,0,0,0,3]) (c := (cnF :: cnF :: cnF :: cnF :: cnF :: cnF :: cnF :: cnF :: cnF :: cnT :: cnT :: cnT :: cnT :: cnT :: cnT :: [])) (by kernel_rfl) ⟨h0, h0, h0, h0, h1, h2, h2, h2, h3, h4, h4, h4, h4, h4, h4, trivial⟩
theorem r2_ffffft (h0 : (!ieqB ct (Int.ofNat 0)) = false) (h1 : (!ieqB fi (Int.ofNat 0)) = false) (h2 : (!true == iltB (Int.ofNat 0) (Int.ofNat ln)) = false) (h3 : (iltB (Int.ofNat 16) (Int.ofNat ln)) = false) (h4 : (!ieqB (Int.ofNat dn) (Int.ofNat ln)) = false) (h5 : (ileB (Int.ofNat 3) sub) = true) :
 rE (Int.ofNat 2) sub pl fi ct la ln lv da dn dv (false) :=
 call_runZ (q := qNs [41,1,1,5,1,3,1,5,1,9,1,1,1,1,14,1,1,5,1,1,6,1,3,1,6,0,0,0,0,0,0,3]) (c := (cnF :: cnF :: cnF :: cnF :: cnF :: cnF :: cnF :: cnF :: cnF :: cnF :: cnF :: cnF :: cnF :: cnF :: cnF :: cnT :: cnT :: cnT :: cnT :: cnT :: cnT :: [])) (by kernel_rfl) ⟨h0, h0, h0, h0, h1, h2, h2, h2, h3, h4, h4, h4, h4, h4, h4, h5, h5, h5, h5, h5, h5, trivial⟩
theorem r2_fffffft (h0 : (!ieqB ct (Int.ofNat 0)) = false) (h1 : (!ieqB fi (Int.ofNat 0)) = false) (h2 : (!true == iltB (Int.ofNat 0) (Int.ofNat ln)) = false) (h3 : (iltB (Int.ofNat 16) (Int.ofNat ln)) = false) (h4 : (!ieqB (Int.ofNat dn) (Int.ofNat ln)) = false) (h5 : (ileB (Int.ofNat 3) sub) = false) (h6 : (iltB (Int.ofNat 0) sub) = true) :
 rE (Int.ofNat 2) sub pl fi ct la ln lv da dn dv (false) :=
 call_runZ (q := qNs [41,1,1,5,1,3,1,5,1,9,1,1,1,1,14,1,1,5,1,1,6,1,3,1,6,1,1,5,1,1,0,17,0,9,0,1,0,1,3]) (c := (cnF :: cnF :: cnF :: cnF :: cnF :: cnF :: cnF :: cnF :: cnF :: cnF :: cnF :: cnF :: cnF :: cnF :: cnF :: cnF :: cnF :: cnF :: cnF :: cnT :: cnT :: cnT :: cnF :: cnT :: cnF :: [])) (by kernel_rfl) ⟨h0, h0, h0, h0, h1, h2, h2, h2, h3, h4, h4, h4, h4, h4, h4, h5, h5, h5, h5, h6, h6, h6, h5, h6, h5, trivial⟩
theorem r2_ffffffft (h0 : (!ieqB ct (Int.ofNat 0)) = false) (h1 : (!ieqB fi (Int.ofNat 0)) = false) (h2 : (!true == iltB (Int.ofNat 0) (Int.ofNat ln)) = false) (h3 : (iltB (Int.ofNat 16) (Int.ofNat ln)) = false) (h4 : (!ieqB (Int.ofNat dn) (Int.ofNat ln)) = false) (h5 : (ileB (Int.ofNat 3) sub) = false) (h6 : (iltB (Int.ofNat 0) sub) = false) (h7 : (iltB (Int.ofNat 0) pl) = true) :
 rE (Int.ofNat 2) sub pl fi ct la ln lv da dn dv (false) :=
 call_runZ (q := qNs [41,1,1,5,1,3,1,5,1,9,1,1,1,1,14,1,1,5,1,1,6,1,3,1,6,1,1,5,1,1,1,1,1,1,1,1,6,0,0,5,0,0,5,0,3,0,3]) (c := (cnF :: cnF :: cnF :: cnF :: cnF :: cnF :: cnF :: cnF :: cnF :: cnF :: cnF :: cnF :: cnF :: cnF :: cnF :: cnF :: cnF :: cnF :: cnF :: cnF :: cnF :: cnF :: cnF :: cnF :: cnF :: cnT :: cnT :: cnT :: cnT :: cnT :: cnT :: [])) (by kernel_rfl) ⟨h0, h0, h0, h0, h1, h2, h2, h2, h3, h4, h4, h4, h4, h4, h4, h5, h5, h5, h5, h6, h6, h6, h5, h6, h5, h7, h7, h7, h7, h7, h7, trivial⟩
theorem r2_fffffffft (h0 : (!ieqB ct (Int.ofNat 0)) = false) (h1 : (!ieqB fi (Int.ofNat 0)) = false) (h2 : (!true == iltB (Int.ofNat 0) (Int.ofNat ln)) = false) (h3 : (iltB (Int.ofNat 16) (Int.ofNat ln)) = false) (h4 : (!ieqB (Int.ofNat dn) (Int.ofNat ln)) = false) (h5 : (ileB (Int.ofNat 3) sub) = false) (h6 : (iltB (Int.ofNat 0) sub) = false) (h7 : (iltB (Int.ofNat 0) pl) = false) (h8 : (okD p440 dv) = true) (h9 : (AV.plainL dv) = true) (h10 : (isD dv) = true) (h11 : (dv.length.beq dn) = true) (h12 : (dn.beq dn) = true) (h13 : (dn.ble 1099511627776) = true) :
 rE (Int.ofNat 2) sub pl fi ct la ln lv da dn dv (true) :=
 call_runZ (q := qNs [41,1,1,5,1,3,1,5,1,9,1,1,1,1,14,1,1,5,1,1,6,1,3,1,6,1,1,5,1,1,1,1,1,1,1,1,6,1,1,1,1,1,1,6,0,4,0,0,0,0,0,3,0,0,3,0]) (c := (cnF :: cnF :: cnF :: cnF :: cnF :: cnF :: cnF :: cnF :: cnF :: cnF :: cnF :: cnF :: cnF :: cnF :: cnF :: cnF :: cnF :: cnF :: cnF :: cnF :: cnF :: cnF :: cnF :: cnF :: cnF :: cnF :: cnF :: cnF :: cnF :: cnF :: cnF :: Cnd.code (ZLT.lsumS (flOf tys) ((108, 0), ixL).snd).fst (ZLT.lsumS (flOf tys) ((108, 0), ixL).snd).fst :: cnT :: cnT :: cnT :: cnT :: cnT :: cnT :: cnT :: cnT :: cnT :: [])) (by kernel_rfl) ⟨h0, h0, h0, h0, h1, h2, h2, h2, h3, h4, h4, h4, h4, h4, h4, h5, h5, h5, h5, h6, h6, h6, h5, h6, h5, h7, h7, h7, h7, h7, h7, rfl, h8, h9, h9, h10, h11, h12, h13, h8, h9, trivial⟩
theorem r2_fffffffff (h0 : (!ieqB ct (Int.ofNat 0)) = false) (h1 : (!ieqB fi (Int.ofNat 0)) = false) (h2 : (!true == iltB (Int.ofNat 0) (Int.ofNat ln)) = false) (h3 : (iltB (Int.ofNat 16) (Int.ofNat ln)) = false) (h4 : (!ieqB (Int.ofNat dn) (Int.ofNat ln)) = false) (h5 : (ileB (Int.ofNat 3) sub) = false) (h6 : (iltB (Int.ofNat 0) sub) = false) (h7 : (iltB (Int.ofNat 0) pl) = false) (h8 : (okD p440 dv) = false) (h9 : (AV.plainL dv) = true) (h10 : (isD dv) = true) (h11 : (dv.length.beq dn) = true) (h12 : (dn.beq dn) = true) (h13 : (dn.ble 1099511627776) = true) (h14 : (!okD p440 dv) = true) :
 rE (Int.ofNat 2) sub pl fi ct la ln lv da dn dv (!ileB (Int.ofNat 0) (Int.ofNat (badD p440 dv))) :=
 call_runZ (q := qNs [41,1,1,5,1,3,1,5,1,9,1,1,1,1,14,1,1,5,1,1,6,1,3,1,6,1,1,5,1,1,1,1,1,1,1,1,6,1,1,1,1,1,1,6,1,4,0,0,0,0,0,3,0,0,3,0]) (c := (cnF :: cnF :: cnF :: cnF :: cnF :: cnF :: cnF :: cnF :: cnF :: cnF :: cnF :: cnF :: cnF :: cnF :: cnF :: cnF :: cnF :: cnF :: cnF :: cnF :: cnF :: cnF :: cnF :: cnF :: cnF :: cnF :: cnF :: cnF :: cnF :: cnF :: cnF :: Cnd.code (ZLT.lsumS (flOf tys) ((108, 0), ixL).snd).fst (ZLT.lsumS (flOf tys) ((108, 0), ixL).snd).fst :: cnF :: cnT :: cnT :: cnT :: cnT :: cnT :: cnT :: cnT :: cnT :: [])) (by kernel_rfl) ⟨h0, h0, h0, h0, h1, h2, h2, h2, h3, h4, h4, h4, h4, h4, h4, h5, h5, h5, h5, h6, h6, h6, h5, h6, h5, h7, h7, h7, h7, h7, h7, rfl, h8, h9, h9, h10, h11, h12, h13, h14, h9, trivial⟩
theorem r3_t (h0 : (!ieqB ct (Int.ofNat 0)) = true) :
 rE (Int.ofNat 3) sub pl fi ct la ln lv da dn dv (false) :=
 call_runZ (q := qNs [41,0,0,0,3,0,6]) (c := (cnT :: cnT :: cnT :: cnT :: [])) (by kernel_rfl) ⟨h0, h0, h0, h0, trivial⟩
theorem r3_ft (h0 : (!ieqB ct (Int.ofNat 0)) = false) (h1 : (!ieqB fi (Int.ofNat 0)) = true) :
 rE (Int.ofNat 3) sub pl fi ct la ln lv da dn dv (false) :=
 call_runZ (q := qNs [41,1,1,5,1,3,1,5,0]) (c := (cnF :: cnF :: cnF :: cnF :: cnT :: [])) (by kernel_rfl) ⟨h0, h0, h0, h0, h1, trivial⟩
theorem r3_fft (h0 : (!ieqB ct (Int.ofNat 0)) = false) (h1 : (!ieqB fi (Int.ofNat 0)) = false) (h2 : (!true == iltB (Int.ofNat 0) (Int.ofNat ln)) = true) :
 rE (Int.ofNat 3) sub pl fi ct la ln lv da dn dv (false) :=
 call_runZ (q := qNs [41,1,1,5,1,3,1,5,1,12,0,0,0,3]) (c := (cnF :: cnF :: cnF :: cnF :: cnF :: cnT :: cnT :: cnT :: [])) (by kernel_rfl) ⟨h0, h0, h0, h0, h1, h2, h2, h2, trivial⟩
theorem r3_ffft (h0 : (!ieqB ct (Int.ofNat 0)) = false) (h1 : (!ieqB fi (Int.ofNat 0)) = false) (h2 : (!true == iltB (Int.ofNat 0) (Int.ofNat ln)) = false) (h3 : (iltB (Int.ofNat 16) (Int.ofNat ln)) = true) :
 rE (Int.ofNat 3) sub pl fi ct la ln lv da dn dv (false) :=
 call_runZ (q := qNs [41,1,1,5,1,3,1,5,1,12,1,1,1,0]) (c := (cnF :: cnF :: cnF :: cnF :: cnF :: cnF :: cnF :: cnF :: cnT :: [])) (by kernel_rfl) ⟨h0, h0, h0, h0, h1, h2, h2, h2, h3, trivial⟩
theorem r3_fffft (h0 : (!ieqB ct (Int.ofNat 0)) = false) (h1 : (!ieqB fi (Int.ofNat 0)) = false) (h2 : (!true == iltB (Int.ofNat 0) (Int.ofNat ln)) = false) (h3 : (iltB (Int.ofNat 16) (Int.ofNat ln)) = false) (h4 : (iltB (Int.ofNat 0) (Int.ofNat dn)) = true) :
 rE (Int.ofNat 3) sub pl fi ct la ln lv da dn dv (false) :=
 call_runZ (q := qNs [41,1,1,5,1,3,1,5,1,12,1,1,1,1,28,0]) (c := (cnF :: cnF :: cnF :: cnF :: cnF :: cnF :: cnF :: cnF :: cnF :: cnT :: [])) (by kernel_rfl) ⟨h0, h0, h0, h0, h1, h2, h2, h2, h3, h4, trivial⟩
theorem r3_ffffft (h0 : (!ieqB ct (Int.ofNat 0)) = false) (h1 : (!ieqB fi (Int.ofNat 0)) = false) (h2 : (!true == iltB (Int.ofNat 0) (Int.ofNat ln)) = false) (h3 : (iltB (Int.ofNat 16) (Int.ofNat ln)) = false) (h4 : (iltB (Int.ofNat 0) (Int.ofNat dn)) = false) (h5 : (ileB (Int.ofNat 3) sub) = true) :
 rE (Int.ofNat 3) sub pl fi ct la ln lv da dn dv (false) :=
 call_runZ (q := qNs [41,1,1,5,1,3,1,5,1,12,1,1,1,1,28,1,5,0,0,0,0,0,0,3]) (c := (cnF :: cnF :: cnF :: cnF :: cnF :: cnF :: cnF :: cnF :: cnF :: cnF :: cnT :: cnT :: cnT :: cnT :: cnT :: cnT :: [])) (by kernel_rfl) ⟨h0, h0, h0, h0, h1, h2, h2, h2, h3, h4, h5, h5, h5, h5, h5, h5, trivial⟩
theorem r3_fffffft (h0 : (!ieqB ct (Int.ofNat 0)) = false) (h1 : (!ieqB fi (Int.ofNat 0)) = false) (h2 : (!true == iltB (Int.ofNat 0) (Int.ofNat ln)) = false) (h3 : (iltB (Int.ofNat 16) (Int.ofNat ln)) = false) (h4 : (iltB (Int.ofNat 0) (Int.ofNat dn)) = false) (h5 : (ileB (Int.ofNat 3) sub) = false) (h6 : (iltB (Int.ofNat 0) sub) = true) :
 rE (Int.ofNat 3) sub pl fi ct la ln lv da dn dv (false) :=
 call_runZ (q := qNs [41,1,1,5,1,3,1,5,1,12,1,1,1,1,28,1,5,1,1,5,1,1,0,17,0,9,0,1,0,1,3]) (c := (cnF :: cnF :: cnF :: cnF :: cnF :: cnF :: cnF :: cnF :: cnF :: cnF :: cnF :: cnF :: cnF :: cnF :: cnT :: cnT :: cnT :: cnF :: cnT :: cnF :: [])) (by kernel_rfl) ⟨h0, h0, h0, h0, h1, h2, h2, h2, h3, h4, h5, h5, h5, h5, h6, h6, h6, h5, h6, h5, trivial⟩
theorem r3_ffffffft (h0 : (!ieqB ct (Int.ofNat 0)) = false) (h1 : (!ieqB fi (Int.ofNat 0)) = false) (h2 : (!true == iltB (Int.ofNat 0) (Int.ofNat ln)) = false) (h3 : (iltB (Int.ofNat 16) (Int.ofNat ln)) = false) (h4 : (iltB (Int.ofNat 0) (Int.ofNat dn)) = false) (h5 : (ileB (Int.ofNat 3) sub) = false) (h6 : (iltB (Int.ofNat 0) sub) = false) (h7 : (iltB (Int.ofNat 0) pl) = true) :
 rE (Int.ofNat 3) sub pl fi ct la ln lv da dn dv (false) :=
 call_runZ (q := qNs [41,1,1,5,1,3,1,5,1,12,1,1,1,1,28,1,5,1,1,5,1,1,1,1,1,1,1,1,6,0,0,5,0,0,5,0,3,0,3]) (c := (cnF :: cnF :: cnF :: cnF :: cnF :: cnF :: cnF :: cnF :: cnF :: cnF :: cnF :: cnF :: cnF :: cnF :: cnF :: cnF :: cnF :: cnF :: cnF :: cnF :: cnT :: cnT :: cnT :: cnT :: cnT :: cnT :: [])) (by kernel_rfl) ⟨h0, h0, h0, h0, h1, h2, h2, h2, h3, h4, h5, h5, h5, h5, h6, h6, h6, h5, h6, h5, h7, h7, h7, h7, h7, h7, trivial⟩
theorem r3_fffffffft (h0 : (!ieqB ct (Int.ofNat 0)) = false) (h1 : (!ieqB fi (Int.ofNat 0)) = false) (h2 : (!true == iltB (Int.ofNat 0) (Int.ofNat ln)) = false) (h3 : (iltB (Int.ofNat 16) (Int.ofNat ln)) = false) (h4 : (iltB (Int.ofNat 0) (Int.ofNat dn)) = false) (h5 : (ileB (Int.ofNat 3) sub) = false) (h6 : (iltB (Int.ofNat 0) sub) = false) (h7 : (iltB (Int.ofNat 0) pl) = false) (h8 : (okD p440 dv) = true) (h9 : (AV.plainL dv) = true) (h10 : (isD dv) = true) (h11 : (dv.length.beq dn) = true) (h12 : (dn.beq dn) = true) (h13 : (dn.ble 1099511627776) = true) :
 rE (Int.ofNat 3) sub pl fi ct la ln lv da dn dv (true) :=
 call_runZ (q := qNs [41,1,1,5,1,3,1,5,1,12,1,1,1,1,28,1,5,1,1,5,1,1,1,1,1,1,1,1,6,1,1,1,1,1,1,6,0,4,0,0,0,0,0,3,0,0,3,0]) (c := (cnF :: cnF :: cnF :: cnF :: cnF :: cnF :: cnF :: cnF :: cnF :: cnF :: cnF :: cnF :: cnF :: cnF :: cnF :: cnF :: cnF :: cnF :: cnF :: cnF :: cnF :: cnF :: cnF :: cnF :: cnF :: cnF :: Cnd.code (ZLT.lsumS (flOf tys) ((108, 0), ixL).snd).fst (ZLT.lsumS (flOf tys) ((108, 0), ixL).snd).fst :: cnT :: cnT :: cnT :: cnT :: cnT :: cnT :: cnT :: cnT :: cnT :: [])) (by kernel_rfl) ⟨h0, h0, h0, h0, h1, h2, h2, h2, h3, h4, h5, h5, h5, h5, h6, h6, h6, h5, h6, h5, h7, h7, h7, h7, h7, h7, rfl, h8, h9, h9, h10, h11, h12, h13, h8, h9, trivial⟩
theorem r3_fffffffff (h0 : (!ieqB ct (Int.ofNat 0)) = false) (h1 : (!ieqB fi (Int.ofNat 0)) = false) (h2 : (!true == iltB (Int.ofNat 0) (Int.ofNat ln)) = false) (h3 : (iltB (Int.ofNat 16) (Int.ofNat ln)) = false) (h4 : (iltB (Int.ofNat 0) (Int.ofNat dn)) = false) (h5 : (ileB (Int.ofNat 3) sub) = false) (h6 : (iltB (Int.ofNat 0) sub) = false) (h7 : (iltB (Int.ofNat 0) pl) = false) (h8 : (okD p440 dv) = false) (h9 : (AV.plainL dv) = true) (h10 : (isD dv) = true) (h11 : (dv.length.beq dn) = true) (h12 : (dn.beq dn) = true) (h13 : (dn.ble 1099511627776) = true) (h14 : (!okD p440 dv) = true) :
 rE (Int.ofNat 3) sub pl fi ct la ln lv da dn dv (!ileB (Int.ofNat 0) (Int.ofNat (badD p440 dv))) :=
 call_runZ (q := qNs [41,1,1,5,1,3,1,5,1,12,1,1,1,1,28,1,5,1,1,5,1,1,1,1,1,1,1,1,6,1,1,1,1,1,1,6,1,4,0,0,0,0,0,3,0,0,3,0]) (c := (cnF :: cnF :: cnF :: cnF :: cnF :: cnF :: cnF :: cnF :: cnF :: cnF :: cnF :: cnF :: cnF :: cnF :: cnF :: cnF :: cnF :: cnF :: cnF :: cnF :: cnF :: cnF :: cnF :: cnF :: cnF :: cnF :: Cnd.code (ZLT.lsumS (flOf tys) ((108, 0), ixL).snd).fst (ZLT.lsumS (flOf tys) ((108, 0), ixL).snd).fst :: cnF :: cnT :: cnT :: cnT :: cnT :: cnT :: cnT :: cnT :: cnT :: [])) (by kernel_rfl) ⟨h0, h0, h0, h0, h1, h2, h2, h2, h3, h4, h5, h5, h5, h5, h6, h6, h6, h5, h6, h5, h7, h7, h7, h7, h7, h7, rfl, h8, h9, h9, h10, h11, h12, h13, h14, h9, trivial⟩
theorem r4_t (h0 : (!ieqB ct (Int.ofNat 0)) = true) :
 rE (Int.ofNat 4) sub pl fi ct la ln lv da dn dv (false) :=
 call_runZ (q := qNs [41,0,0,0,3,0,6]) (c := (cnT :: cnT :: cnT :: cnT :: [])) (by kernel_rfl) ⟨h0, h0, h0, h0, trivial⟩
theorem r4_ft (h0 : (!ieqB ct (Int.ofNat 0)) = false) (h1 : (!ieqB fi (Int.ofNat 0)) = true) :
 rE (Int.ofNat 4) sub pl fi ct la ln lv da dn dv (false) :=
 call_runZ (q := qNs [41,1,1,5,1,3,1,5,0]) (c := (cnF :: cnF :: cnF :: cnF :: cnT :: [])) (by kernel_rfl) ⟨h0, h0, h0, h0, h1, trivial⟩
theorem r4_fft (h0 : (!ieqB ct (Int.ofNat 0)) = false) (h1 : (!ieqB fi (Int.ofNat 0)) = false) (h2 : (!false == iltB (Int.ofNat 0) (Int.ofNat ln)) = true) :
 rE (Int.ofNat 4) sub pl fi ct la ln lv da dn dv (false) :=
 call_runZ (q := qNs [41,1,1,5,1,3,1,5,1,12,0,0,0,3]) (c := (cnF :: cnF :: cnF :: cnF :: cnF :: cnT :: cnT :: cnT :: [])) (by kernel_rfl) ⟨h0, h0, h0, h0, h1, h2, h2, h2, trivial⟩
theorem r4_ffft (h0 : (!ieqB ct (Int.ofNat 0)) = false) (h1 : (!ieqB fi (Int.ofNat 0)) = false) (h2 : (!false == iltB (Int.ofNat 0) (Int.ofNat ln)) = false) (h3 : (iltB (Int.ofNat 16) (Int.ofNat ln)) = true) :
 rE (Int.ofNat 4) sub pl fi ct la ln lv da dn dv (false) :=
 call_runZ (q := qNs [41,1,1,5,1,3,1,5,1,12,1,1,1,0]) (c := (cnF :: cnF :: cnF :: cnF :: cnF :: cnF :: cnF :: cnF :: cnT :: [])) (by kernel_rfl) ⟨h0, h0, h0, h0, h1, h2, h2, h2, h3, trivial⟩
theorem r4_fffft (h0 : (!ieqB ct (Int.ofNat 0)) = false) (h1 : (!ieqB fi (Int.ofNat 0)) = false) (h2 : (!false == iltB (Int.ofNat 0) (Int.ofNat ln)) = false) (h3 : (iltB (Int.ofNat 16) (Int.ofNat ln)) = false) (h4 : (iltB (Int.ofNat 0) (Int.ofNat dn)) = true) :
 rE (Int.ofNat 4) sub pl fi ct la ln lv da dn dv (false) :=
 call_runZ (q := qNs [41,1,1,5,1,3,1,5,1,12,1,1,1,1,28,0]) (c := (cnF :: cnF :: cnF :: cnF :: cnF :: cnF :: cnF :: cnF :: cnF :: cnT :: [])) (by kernel_rfl) ⟨h0, h0, h0, h0, h1, h2, h2, h2, h3, h4, trivial⟩
theorem r4_ffffft (h0 : (!ieqB ct (Int.ofNat 0)) = false) (h1 : (!ieqB fi (Int.ofNat 0)) = false) (h2 : (!false == iltB (Int.ofNat 0) (Int.ofNat ln)) = false) (h3 : (iltB (Int.ofNat 16) (Int.ofNat ln)) = false) (h4 : (iltB (Int.ofNat 0) (Int.ofNat dn)) = false) (h5 : (ileB (Int.ofNat 3) sub) = true) :
 rE (Int.ofNat 4) sub pl fi ct la ln lv da dn dv (false) :=
 call_runZ (q := qNs [41,1,1,5,1,3,1,5,1,12,1,1,1,1,28,1,5,0,0,0,0,0,0,3]) (c := (cnF :: cnF :: cnF :: cnF :: cnF :: cnF :: cnF :: cnF :: cnF :: cnF :: cnT :: cnT :: cnT :: cnT :: cnT :: cnT :: [])) (by kernel_rfl) ⟨h0, h0, h0, h0, h1, h2, h2, h2, h3, h4, h5, h5, h5, h5, h5, h5, trivial⟩
theorem r4_fffffft (h0 : (!ieqB ct (Int.ofNat 0)) = false) (h1 : (!ieqB fi (Int.ofNat 0)) = false) (h2 : (!false == iltB (Int.ofNat 0) (Int.ofNat ln)) = false) (h3 : (iltB (Int.ofNat 16) (Int.ofNat ln)) = false) (h4 : (iltB (Int.ofNat 0) (Int.ofNat dn)) = false) (h5 : (ileB (Int.ofNat 3) sub) = false) (h6 : (iltB (Int.ofNat 0) sub) = true) :
 rE (Int.ofNat 4) sub pl fi ct la ln lv da dn dv (false) :=
 call_runZ (q := qNs [41,1,1,5,1,3,1,5,1,12,1,1,1,1,28,1,5,1,1,5,1,1,0,17,0,9,0,1,0,1,3]) (c := (cnF :: cnF :: cnF :: cnF :: cnF :: cnF :: cnF :: cnF :: cnF :: cnF :: cnF :: cnF :: cnF :: cnF :: cnT :: cnT :: cnT :: cnF :: cnT :: cnF :: [])) (by kernel_rfl) ⟨h0, h0, h0, h0, h1, h2, h2, h2, h3, h4, h5, h5, h5, h5, h6, h6, h6, h5, h6, h5, trivial⟩
theorem r4_ffffffft (h0 : (!ieqB ct (Int.ofNat 0)) = false) (h1 : (!ieqB fi (Int.ofNat 0)) = false) (h2 : (!false == iltB (Int.ofNat 0) (Int.ofNat ln)) = false) (h3 : (iltB (Int.ofNat 16) (Int.ofNat ln)) = false) (h4 : (iltB (Int.ofNat 0) (Int.ofNat dn)) = false) (h5 : (ileB (Int.ofNat 3) sub) = false) (h6 : (iltB (Int.ofNat 0) sub) = false) (h7 : (iltB (Int.ofNat 0) pl) = true) :
 rE (Int.ofNat 4) sub pl fi ct la ln lv da dn dv (false) :=
 call_runZ (q := qNs [41,1,1,5,1,3,1,5,1,12,1,1,1,1,28,1,5,1,1,5,1,1,1,1,1,1,1,1,6,0,0,5,0,0,5,0,3,0,3]) (c := (cnF :: cnF :: cnF :: cnF :: cnF :: cnF :: cnF :: cnF :: cnF :: cnF :: cnF :: cnF :: cnF :: cnF :: cnF :: cnF :: cnF :: cnF :: cnF :: cnF :: cnT :: cnT :: cnT :: cnT :: cnT :: cnT :: [])) (by kernel_rfl) ⟨h0, h0, h0, h0, h1, h2, h2, h2, h3, h4, h5, h5, h5, h5, h6, h6, h6, h5, h6, h5, h7, h7, h7, h7, h7, h7, trivial⟩
theorem r4_fffffffft (h0 : (!ieqB ct (Int.ofNat 0)) = false) (h1 : (!ieqB fi (Int.ofNat 0)) = false) (h2 : (!false == iltB (Int.ofNat 0) (Int.ofNat ln)) = false) (h3 : (iltB (Int.ofNat 16) (Int.ofNat ln)) = false) (h4 : (iltB (Int.ofNat 0) (Int.ofNat dn)) = false) (h5 : (ileB (Int.ofNat 3) sub) = false) (h6 : (iltB (Int.ofNat 0) sub) = false) (h7 : (iltB (Int.ofNat 0) pl) = false) (h8 : (okD p440 dv) = true) (h9 : (AV.plainL dv) = true) (h10 : (isD dv) = true) (h11 : (dv.length.beq dn) = true) (h12 : (dn.beq dn) = true) (h13 : (dn.ble 1099511627776) = true) :
 rE (Int.ofNat 4) sub pl fi ct la ln lv da dn dv (true) :=
 call_runZ (q := qNs [41,1,1,5,1,3,1,5,1,12,1,1,1,1,28,1,5,1,1,5,1,1,1,1,1,1,1,1,6,1,1,1,1,1,1,6,0,4,0,0,0,0,0,3,0,0,3,0]) (c := (cnF :: cnF :: cnF :: cnF :: cnF :: cnF :: cnF :: cnF :: cnF :: cnF :: cnF :: cnF :: cnF :: cnF :: cnF :: cnF :: cnF :: cnF :: cnF :: cnF :: cnF :: cnF :: cnF :: cnF :: cnF :: cnF :: Cnd.code (ZLT.lsumS (flOf tys) ((108, 0), ixL).snd).fst (ZLT.lsumS (flOf tys) ((108, 0), ixL).snd).fst :: cnT :: cnT :: cnT :: cnT :: cnT :: cnT :: cnT :: cnT :: cnT :: [])) (by kernel_rfl) ⟨h0, h0, h0, h0, h1, h2, h2, h2, h3, h4, h5, h5, h5, h5, h6, h6, h6, h5, h6, h5, h7, h7, h7, h7, h7, h7, rfl, h8, h9, h9, h10, h11, h12, h13, h8, h9, trivial⟩
theorem r4_fffffffff (h0 : (!ieqB ct (Int.ofNat 0)) = false) (h1 : (!ieqB fi (Int.ofNat 0)) = false) (h2 : (!false == iltB (Int.ofNat 0) (Int.ofNat ln)) = false) (h3 : (iltB (Int.ofNat 16) (Int.ofNat ln)) = false) (h4 : (iltB (Int.ofNat 0) (Int.ofNat dn)) = false) (h5 : (ileB (Int.ofNat 3) sub) = false) (h6 : (iltB (Int.ofNat 0) sub) = false) (h7 : (iltB (Int.ofNat 0) pl) = false) (h8 : (okD p440 dv) = false) (h9 : (AV.plainL dv) = true) (h10 : (isD dv) = true) (h11 : (dv.length.beq dn) = true) (h12 : (dn.beq dn) = true) (h13 : (dn.ble 1099511627776) = true) (h14 : (!okD p440 dv) = true) :
 rE (Int.ofNat 4) sub pl fi ct la ln lv da dn dv (!ileB (Int.ofNat 0) (Int.ofNat (badD p440 dv))) :=
 call_runZ (q := qNs [41,1,1,5,1,3,1,5,1,12,1,1,1,1,28,1,5,1,1,5,1,1,1,1,1,1,1,1,6,1,1,1,1,1,1,6,1,4,0,0,0,0,0,3,0,0,3,0]) (c := (cnF :: cnF :: cnF :: cnF :: cnF :: cnF :: cnF :: cnF :: cnF :: cnF :: cnF :: cnF :: cnF :: cnF :: cnF :: cnF :: cnF :: cnF :: cnF :: cnF :: cnF :: cnF :: cnF :: cnF :: cnF :: cnF :: Cnd.code (ZLT.lsumS (flOf tys) ((108, 0), ixL).snd).fst (ZLT.lsumS (flOf tys) ((108, 0), ixL).snd).fst :: cnF :: cnT :: cnT :: cnT :: cnT :: cnT :: cnT :: cnT :: cnT :: [])) (by kernel_rfl) ⟨h0, h0, h0, h0, h1, h2, h2, h2, h3, h4, h5, h5, h5, h5, h6, h6, h6, h5, h6, h5, h7, h7, h7, h7, h7, h7, rfl, h8, h9, h9, h10, h11, h12, h13, h14, h9, trivial⟩
theorem r5_t (h0 : (!ieqB ct (Int.ofNat 0)) = true) :
 rE (Int.ofNat 5) sub pl fi ct la ln lv da dn dv (false) :=
 call_runZ (q := qNs [41,0,0,0,3,0,6]) (c := (cnT :: cnT :: cnT :: cnT :: [])) (by kernel_rfl) ⟨h0, h0, h0, h0, trivial⟩
theorem r5_ft (h0 : (!ieqB ct (Int.ofNat 0)) = false) (h1 : (!ieqB fi (Int.ofNat 0)) = true) :
 rE (Int.ofNat 5) sub pl fi ct la ln lv da dn dv (false) :=
 call_runZ (q := qNs [41,1,1,5,1,3,1,5,0]) (c := (cnF :: cnF :: cnF :: cnF :: cnT :: [])) (by kernel_rfl) ⟨h0, h0, h0, h0, h1, trivial⟩
theorem r5_fft (h0 : (!ieqB ct (Int.ofNat 0)) = false) (h1 : (!ieqB fi (Int.ofNat 0)) = false) (h2 : (!false == iltB (Int.ofNat 0) (Int.ofNat ln)) = true) :
 rE (Int.ofNat 5) sub pl fi ct la ln lv da dn dv (false) :=
 call_runZ (q := qNs [41,1,1,5,1,3,1,5,1,12,0,0,0,3]) (c := (cnF :: cnF :: cnF :: cnF :: cnF :: cnT :: cnT :: cnT :: [])) (by kernel_rfl) ⟨h0, h0, h0, h0, h1, h2, h2, h2, trivial⟩
theorem r5_ffft (h0 : (!ieqB ct (Int.ofNat 0)) = false) (h1 : (!ieqB fi (Int.ofNat 0)) = false) (h2 : (!false == iltB (Int.ofNat 0) (Int.ofNat ln)) = false) (h3 : (iltB (Int.ofNat 16) (Int.ofNat ln)) = true) :
 rE (Int.ofNat 5) sub pl fi ct la ln lv da dn dv (false) :=
 call_runZ (q := qNs [41,1,1,5,1,3,1,5,1,12,1,1,1,0]) (c := (cnF :: cnF :: cnF :: cnF :: cnF :: cnF :: cnF :: cnF :: cnT :: [])) (by kernel_rfl) ⟨h0, h0, h0, h0, h1, h2, h2, h2, h3, trivial⟩
theorem r5_fffft (h0 : (!ieqB ct (Int.ofNat 0)) = false) (h1 : (!ieqB fi (Int.ofNat 0)) = false) (h2 : (!false == iltB (Int.ofNat 0) (Int.ofNat ln)) = false) (h3 : (iltB (Int.ofNat 16) (Int.ofNat ln)) = false) (h4 : (iltB (Int.ofNat 0) (Int.ofNat dn)) = true) :
 rE (Int.ofNat 5) sub pl fi ct la ln lv da dn dv (false) :=
 call_runZ (q := qNs [41,1,1,5,1,3,1,5,1,12,1,1,1,1,28,0]) (c := (cnF :: cnF :: cnF :: cnF :: cnF :: cnF :: cnF :: cnF :: cnF :: cnT :: [])) (by kernel_rfl) ⟨h0, h0, h0, h0, h1, h2, h2, h2, h3, h4, trivial⟩
theorem r5_ffffft (h0 : (!ieqB ct (Int.ofNat 0)) = false) (h1 : (!ieqB fi (Int.ofNat 0)) = false) (h2 : (!false == iltB (Int.ofNat 0) (Int.ofNat ln)) = false) (h3 : (iltB (Int.ofNat 16) (Int.ofNat ln)) = false) (h4 : (iltB (Int.ofNat 0) (Int.ofNat dn)) = false) (h5 : (ileB (Int.ofNat 3) sub) = true) :
 rE (Int.ofNat 5) sub pl fi ct la ln lv da dn dv (false) :=
 call_runZ (q := qNs [41,1,1,5,1,3,1,5,1,12,1,1,1,1,28,1,5,0,0,0,0,0,0,3]) (c := (cnF :: cnF :: cnF :: cnF :: cnF :: cnF :: cnF :: cnF :: cnF :: cnF :: cnT :: cnT :: cnT :: cnT :: cnT :: cnT :: [])) (by kernel_rfl) ⟨h0, h0, h0, h0, h1, h2, h2, h2, h3, h4, h5, h5, h5, h5, h5, h5, trivial⟩
theorem r5_fffffftt (h0 : (!ieqB ct (Int.ofNat 0)) = false) (h1 : (!ieqB fi (Int.ofNat 0)) = false) (h2 : (!false == iltB (Int.ofNat 0) (Int.ofNat ln)) = false) (h3 : (iltB (Int.ofNat 16) (Int.ofNat ln)) = false) (h4 : (iltB (Int.ofNat 0) (Int.ofNat dn)) = false) (h5 : (ileB (Int.ofNat 3) sub) = false) (h6 : (iltB (Int.ofNat 0) sub) = true) (h7 : (iltB (Int.ofNat 0) pl) = true) :
 rE (Int.ofNat 5) sub pl fi ct la ln lv da dn dv (false) :=
 call_runZ (q := qNs [41,1,1,5,1,3,1,5,1,12,1,1,1,1,28,1,5,1,1,5,1,1,0,17,0,12,0,1,0,1,6,0,0,5,0,0,5,0,3,0,3]) (c := (cnF :: cnF :: cnF :: cnF :: cnF :: cnF :: cnF :: cnF :: cnF :: cnF :: cnF :: cnF :: cnF :: cnF :: cnT :: cnT :: cnT :: cnF :: cnT :: cnF :: cnT :: cnT :: cnT :: cnT :: cnT :: cnT :: [])) (by kernel_rfl) ⟨h0, h0, h0, h0, h1, h2, h2, h2, h3, h4, h5, h5, h5, h5, h6, h6, h6, h5, h6, h5, h7, h7, h7, h7, h7, h7, trivial⟩
theorem r5_ffffffft (h0 : (!ieqB ct (Int.ofNat 0)) = false) (h1 : (!ieqB fi (Int.ofNat 0)) = false) (h2 : (!false == iltB (Int.ofNat 0) (Int.ofNat ln)) = false) (h3 : (iltB (Int.ofNat 16) (Int.ofNat ln)) = false) (h4 : (iltB (Int.ofNat 0) (Int.ofNat dn)) = false) (h5 : (ileB (Int.ofNat 3) sub) = false) (h6 : (iltB (Int.ofNat 0) sub) = false) (h7 : (iltB (Int.ofNat 0) pl) = true) :
 rE (Int.ofNat 5) sub pl fi ct la ln lv da dn dv (false) :=
 call_runZ (q := qNs [41,1,1,5,1,3,1,5,1,12,1,1,1,1,28,1,5,1,1,5,1,1,1,1,1,1,1,1,6,0,0,5,0,0,5,0,3,0,3]) (c := (cnF :: cnF :: cnF :: cnF :: cnF :: cnF :: cnF :: cnF :: cnF :: cnF :: cnF :: cnF :: cnF :: cnF :: cnF :: cnF :: cnF :: cnF :: cnF :: cnF :: cnT :: cnT :: cnT :: cnT :: cnT :: cnT :: [])) (by kernel_rfl) ⟨h0, h0, h0, h0, h1, h2, h2, h2, h3, h4, h5, h5, h5, h5, h6, h6, h6, h5, h6, h5, h7, h7, h7, h7, h7, h7, trivial⟩
theorem r5_fffffftft (h0 : (!ieqB ct (Int.ofNat 0)) = false) (h1 : (!ieqB fi (Int.ofNat 0)) = false) (h2 : (!false == iltB (Int.ofNat 0) (Int.ofNat ln)) = false) (h3 : (iltB (Int.ofNat 16) (Int.ofNat ln)) = false) (h4 : (iltB (Int.ofNat 0) (Int.ofNat dn)) = false) (h5 : (ileB (Int.ofNat 3) sub) = false) (h6 : (iltB (Int.ofNat 0) sub) = true) (h7 : (iltB (Int.ofNat 0) pl) = false) (h8 : (okD p440 dv) = true) (h9 : (AV.plainL dv) = true) (h10 : (isD dv) = true) (h11 : (dv.length.beq dn) = true) (h12 : (dn.beq dn) = true) (h13 : (dn.ble 1099511627776) = true) :
 rE (Int.ofNat 5) sub pl fi ct la ln lv da dn dv (true) :=
 call_runZ (q := qNs [41,1,1,5,1,3,1,5,1,12,1,1,1,1,28,1,5,1,1,5,1,1,0,17,0,12,0,1,0,1,6,1,1,1,1,1,1,6,0,4,0,0,0,0,0,3,0,0,3,0]) (c := (cnF :: cnF :: cnF :: cnF :: cnF :: cnF :: cnF :: cnF :: cnF :: cnF :: cnF :: cnF :: cnF :: cnF :: cnT :: cnT :: cnT :: cnF :: cnT :: cnF :: cnF :: cnF :: cnF :: cnF :: cnF :: cnF :: Cnd.code (ZLT.lsumS (flOf tys) ((108, 0), ixL).snd).fst (ZLT.lsumS (flOf tys) ((108, 0), ixL).snd).fst :: cnT :: cnT :: cnT :: cnT :: cnT :: cnT :: cnT :: cnT :: cnT :: [])) (by kernel_rfl) ⟨h0, h0, h0, h0, h1, h2, h2, h2, h3, h4, h5, h5, h5, h5, h6, h6, h6, h5, h6, h5, h7, h7, h7, h7, h7, h7, rfl, h8, h9, h9, h10, h11, h12, h13, h8, h9, trivial⟩
theorem r5_fffffftff (h0 : (!ieqB ct (Int.ofNat 0)) = false) (h1 : (!ieqB fi (Int.ofNat 0)) = false) (h2 : (!false == iltB (Int.ofNat 0) (Int.ofNat ln)) = false) (h3 : (iltB (Int.ofNat 16) (Int.ofNat ln)) = false) (h4 : (iltB (Int.ofNat 0) (Int.ofNat dn)) = false) (h5 : (ileB (Int.ofNat 3) sub) = false) (h6 : (iltB (Int.ofNat 0) sub) = true) (h7 : (iltB (Int.ofNat 0) pl) = false) (h8 : (okD p440 dv) = false) (h9 : (AV.plainL dv) = true) (h10 : (isD dv) = true) (h11 : (dv.length.beq dn) = true) (h12 : (dn.beq dn) = true) (h13 : (dn.ble 1099511627776) = true) (h14 : (!okD p440 dv) = true) :
 rE (Int.ofNat 5) sub pl fi ct la ln lv da dn dv (!ileB (Int.ofNat 0) (Int.ofNat (badD p440 dv))) :=
 call_runZ (q := qNs [41,1,1,5,1,3,1,5,1,12,1,1,1,1,28,1,5,1,1,5,1,1,0,17,0,12,0,1,0,1,6,1,1,1,1,1,1,6,1,4,0,0,0,0,0,3,0,0,3,0]) (c := (cnF :: cnF :: cnF :: cnF :: cnF :: cnF :: cnF :: cnF :: cnF :: cnF :: cnF :: cnF :: cnF :: cnF :: cnT :: cnT :: cnT :: cnF :: cnT :: cnF :: cnF :: cnF :: cnF :: cnF :: cnF :: cnF :: Cnd.code (ZLT.lsumS (flOf tys) ((108, 0), ixL).snd).fst (ZLT.lsumS (flOf tys) ((108, 0), ixL).snd).fst :: cnF :: cnT :: cnT :: cnT :: cnT :: cnT :: cnT :: cnT :: cnT :: [])) (by kernel_rfl) ⟨h0, h0, h0, h0, h1, h2, h2, h2, h3, h4, h5, h5, h5, h5, h6, h6, h6, h5, h6, h5, h7, h7, h7, h7, h7, h7, rfl, h8, h9, h9, h10, h11, h12, h13, h14, h9, trivial⟩
theorem r5_fffffffft (h0 : (!ieqB ct (Int.ofNat 0)) = false) (h1 : (!ieqB fi (Int.ofNat 0)) = false) (h2 : (!false == iltB (Int.ofNat 0) (Int.ofNat ln)) = false) (h3 : (iltB (Int.ofNat 16) (Int.ofNat ln)) = false) (h4 : (iltB (Int.ofNat 0) (Int.ofNat dn)) = false) (h5 : (ileB (Int.ofNat 3) sub) = false) (h6 : (iltB (Int.ofNat 0) sub) = false) (h7 : (iltB (Int.ofNat 0) pl) = false) (h8 : (okD p440 dv) = true) (h9 : (AV.plainL dv) = true) (h10 : (isD dv) = true) (h11 : (dv.length.beq dn) = true) (h12 : (dn.beq dn) = true) (h13 : (dn.ble 1099511627776) = true) :
 rE (Int.ofNat 5) sub pl fi ct la ln lv da dn dv (true) :=
 call_runZ (q := qNs [41,1,1,5,1,3,1,5,1,12,1,1,1,1,28,1,5,1,1,5,1,1,1,1,1,1,1,1,6,1,1,1,1,1,1,6,0,4,0,0,0,0,0,3,0,0,3,0]) (c := (cnF :: cnF :: cnF :: cnF :: cnF :: cnF :: cnF :: cnF :: cnF :: cnF :: cnF :: cnF :: cnF :: cnF :: cnF :: cnF :: cnF :: cnF :: cnF :: cnF :: cnF :: cnF :: cnF :: cnF :: cnF :: cnF :: Cnd.code (ZLT.lsumS (flOf tys) ((108, 0), ixL).snd).fst (ZLT.lsumS (flOf tys) ((108, 0), ixL).snd).fst :: cnT :: cnT :: cnT :: cnT :: cnT :: cnT :: cnT :: cnT :: cnT :: [])) (by kernel_rfl) ⟨h0, h0, h0, h0, h1, h2, h2, h2, h3, h4, h5, h5, h5, h5, h6, h6, h6, h5, h6, h5, h7, h7, h7, h7, h7, h7, rfl, h8, h9, h9, h10, h11, h12, h13, h8, h9, trivial⟩
theorem r5_fffffffff (h0 : (!ieqB ct (Int.ofNat 0)) = false) (h1 : (!ieqB fi (Int.ofNat 0)) = false) (h2 : (!false == iltB (Int.ofNat 0) (Int.ofNat ln)) = false) (h3 : (iltB (Int.ofNat 16) (Int.ofNat ln)) = false) (h4 : (iltB (Int.ofNat 0) (Int.ofNat dn)) = false) (h5 : (ileB (Int.ofNat 3) sub) = false) (h6 : (iltB (Int.ofNat 0) sub) = false) (h7 : (iltB (Int.ofNat 0) pl) = false) (h8 : (okD p440 dv) = false) (h9 : (AV.plainL dv) = true) (h10 : (isD dv) = true) (h11 : (dv.length.beq dn) = true) (h12 : (dn.beq dn) = true) (h13 : (dn.ble 1099511627776) = true) (h14 : (!okD p440 dv) = true) :
 rE (Int.ofNat 5) sub pl fi ct la ln lv da dn dv (!ileB (Int.ofNat 0) (Int.ofNat (badD p440 dv))) :=
 call_runZ (q := qNs [41,1,1,5,1,3,1,5,1,12,1,1,1,1,28,1,5,1,1,5,1,1,1,1,1,1,1,1,6,1,1,1,1,1,1,6,1,4,0,0,0,0,0,3,0,0,3,0]) (c := (cnF :: cnF :: cnF :: cnF :: cnF :: cnF :: cnF :: cnF :: cnF :: cnF :: cnF :: cnF :: cnF :: cnF :: cnF :: cnF :: cnF :: cnF :: cnF :: cnF :: cnF :: cnF :: cnF :: cnF :: cnF :: cnF :: Cnd.code (ZLT.lsumS (flOf tys) ((108, 0), ixL).snd).fst (ZLT.lsumS (flOf tys) ((108, 0), ixL).snd).fst :: cnF :: cnT :: cnT :: cnT :: cnT :: cnT :: cnT :: cnT :: cnT :: [])) (by kernel_rfl) ⟨h0, h0, h0, h0, h1, h2, h2, h2, h3, h4, h5, h5, h5, h5, h6, h6, h6, h5, h6, h5, h7, h7, h7, h7, h7, h7, rfl, h8, h9, h9, h10, h11, h12, h13, h14, h9, trivial⟩
theorem r6_t (h0 : (!ieqB ct (Int.ofNat 0)) = true) :
 rE (Int.ofNat 6) sub pl fi ct la ln lv da dn dv (false) :=
 call_runZ (q := qNs [41,0,0,0,3,0,6]) (c := (cnT :: cnT :: cnT :: cnT :: [])) (by kernel_rfl) ⟨h0, h0, h0, h0, trivial⟩
theorem r6_ft (h0 : (!ieqB ct (Int.ofNat 0)) = false) (h1 : (!ieqB fi (Int.ofNat 0)) = true) :
 rE (Int.ofNat 6) sub pl fi ct la ln lv da dn dv (false) :=
 call_runZ (q := qNs [41,1,1,5,1,3,1,5,0]) (c := (cnF :: cnF :: cnF :: cnF :: cnT :: [])) (by kernel_rfl) ⟨h0, h0, h0, h0, h1, trivial⟩
theorem r6_fft (h0 : (!ieqB ct (Int.ofNat 0)) = false) (h1 : (!ieqB fi (Int.ofNat 0)) = false) (h2 : (!false == iltB (Int.ofNat 0) (Int.ofNat ln)) = true) :
 rE (Int.ofNat 6) sub pl fi ct la ln lv da dn dv (false) :=
 call_runZ (q := qNs [41,1,1,5,1,3,1,5,1,12,0,0,0,3]) (c := (cnF :: cnF :: cnF :: cnF :: cnF :: cnT :: cnT :: cnT :: [])) (by kernel_rfl) ⟨h0, h0, h0, h0, h1, h2, h2, h2, trivial⟩
theorem r6_ffft (h0 : (!ieqB ct (Int.ofNat 0)) = false) (h1 : (!ieqB fi (Int.ofNat 0)) = false) (h2 : (!false == iltB (Int.ofNat 0) (Int.ofNat ln)) = false) (h3 : (iltB (Int.ofNat 16) (Int.ofNat ln)) = true) :
 rE (Int.ofNat 6) sub pl fi ct la ln lv da dn dv (false) :=
 call_runZ (q := qNs [41,1,1,5,1,3,1,5,1,12,1,1,1,0]) (c := (cnF :: cnF :: cnF :: cnF :: cnF :: cnF :: cnF :: cnF :: cnT :: [])) (by kernel_rfl) ⟨h0, h0, h0, h0, h1, h2, h2, h2, h3, trivial⟩
theorem r6_fffft (h0 : (!ieqB ct (Int.ofNat 0)) = false) (h1 : (!ieqB fi (Int.ofNat 0)) = false) (h2 : (!false == iltB (Int.ofNat 0) (Int.ofNat ln)) = false) (h3 : (iltB (Int.ofNat 16) (Int.ofNat ln)) = false) (h4 : (iltB (Int.ofNat 0) (Int.ofNat dn)) = true) :
 rE (Int.ofNat 6) sub pl fi ct la ln lv da dn dv (false) :=
 call_runZ (q := qNs [41,1,1,5,1,3,1,5,1,12,1,1,1,1,28,0]) (c := (cnF :: cnF :: cnF :: cnF :: cnF :: cnF :: cnF :: cnF :: cnF :: cnT :: [])) (by kernel_rfl) ⟨h0, h0, h0, h0, h1, h2, h2, h2, h3, h4, trivial⟩
theorem r6_ffffft (h0 : (!ieqB ct (Int.ofNat 0)) = false) (h1 : (!ieqB fi (Int.ofNat 0)) = false) (h2 : (!false == iltB (Int.ofNat 0) (Int.ofNat ln)) = false) (h3 : (iltB (Int.ofNat 16) (Int.ofNat ln)) = false) (h4 : (iltB (Int.ofNat 0) (Int.ofNat dn)) = false) (h5 : (ileB (Int.ofNat 3) sub) = true) :
 rE (Int.ofNat 6) sub pl fi ct la ln lv da dn dv (false) :=
 call_runZ (q := qNs [41,1,1,5,1,3,1,5,1,12,1,1,1,1,28,1,5,0,0,0,0,0,0,3]) (c := (cnF :: cnF :: cnF :: cnF :: cnF :: cnF :: cnF :: cnF :: cnF :: cnF :: cnT :: cnT :: cnT :: cnT :: cnT :: cnT :: [])) (by kernel_rfl) ⟨h0, h0, h0, h0, h1, h2, h2, h2, h3, h4, h5, h5, h5, h5, h5, h5, trivial⟩
theorem r6_fffffftt (h0 : (!ieqB ct (Int.ofNat 0)) = false) (h1 : (!ieqB fi (Int.ofNat 0)) = false) (h2 : (!false == iltB (Int.ofNat 0) (Int.ofNat ln)) = false) (h3 : (iltB (Int.ofNat 16) (Int.ofNat ln)) = false) (h4 : (iltB (Int.ofNat 0) (Int.ofNat dn)) = false) (h5 : (ileB (Int.ofNat 3) sub) = false) (h6 : (iltB (Int.ofNat 0) sub) = true) (h7 : (iltB (Int.ofNat 0) pl) = true) :
 rE (Int.ofNat 6) sub pl fi ct la ln lv da dn dv (false) :=
 call_runZ (q := qNs [41,1,1,5,1,3,1,5,1,12,1,1,1,1,28,1,5,1,1,5,1,1,0,17,0,12,0,1,0,1,6,0,0,5,0,0,5,0,3,0,3]) (c := (cnF :: cnF :: cnF :: cnF :: cnF :: cnF :: cnF :: cnF :: cnF :: cnF :: cnF :: cnF :: cnF :: cnF :: cnT :: cnT :: cnT :: cnF :: cnT :: cnF :: cnT :: cnT :: cnT :: cnT :: cnT :: cnT :: [])) (by kernel_rfl) ⟨h0, h0, h0, h0, h1, h2, h2, h2, h3, h4, h5, h5, h5, h5, h6, h6, h6, h5, h6, h5, h7, h7, h7, h7, h7, h7, trivial⟩
theorem r6_ffffffft (h0 : (!ieqB ct (Int.ofNat 0)) = false) (h1 : (!ieqB fi (Int.ofNat 0)) = false) (h2 : (!false == iltB (Int.ofNat 0) (Int.ofNat ln)) = false) (h3 : (iltB (Int.ofNat 16) (Int.ofNat ln)) = false) (h4 : (iltB (Int.ofNat 0) (Int.ofNat dn)) = false) (h5 : (ileB (Int.ofNat 3) sub) = false) (h6 : (iltB (Int.ofNat 0) sub) = false) (h7 : (iltB (Int.ofNat 0) pl) = true) :
 rE (Int.ofNat 6) sub pl fi ct la ln lv da dn dv (false) :=
 call_runZ (q := qNs [41,1,1,5,1,3,1,5,1,12,1,1,1,1,28,1,5,1,1,5,1,1,1,1,1,1,1,1,6,0,0,5,0,0,5,0,3,0,3]) (c := (cnF :: cnF :: cnF :: cnF :: cnF :: cnF :: cnF :: cnF :: cnF :: cnF :: cnF :: cnF :: cnF :: cnF :: cnF :: cnF :: cnF :: cnF :: cnF :: cnF :: cnT :: cnT :: cnT :: cnT :: cnT :: cnT :: [])) (by kernel_rfl) ⟨h0, h0, h0, h0, h1, h2, h2, h2, h3, h4, h5, h5, h5, h5, h6, h6, h6, h5, h6, h5, h7, h7, h7, h7, h7, h7, trivial⟩
theorem r6_fffffftft (h0 : (!ieqB ct (Int.ofNat 0)) = false) (h1 : (!ieqB fi (Int.ofNat 0)) = false) (h2 : (!false == iltB (Int.ofNat 0) (Int.ofNat ln)) = false) (h3 : (iltB (Int.ofNat 16) (Int.ofNat ln)) = false) (h4 : (iltB (Int.ofNat 0) (Int.ofNat dn)) = false) (h5 : (ileB (Int.ofNat 3) sub) = false) (h6 : (iltB (Int.ofNat 0) sub) = true) (h7 : (iltB (Int.ofNat 0) pl) = false) (h8 : (okD p440 dv) = true) (h9 : (AV.plainL dv) = true) (h10 : (isD dv) = true) (h11 : (dv.length.beq dn) = true) (h12 : (dn.beq dn) = true) (h13 : (dn.ble 1099511627776) = true) :
 rE (Int.ofNat 6) sub pl fi ct la ln lv da dn dv (true) :=
 call_runZ (q := qNs [41,1,1,5,1,3,1,5,1,12,1,1,1,1,28,1,5,1,1,5,1,1,0,17,0,12,0,1,0,1,6,1,1,1,1,1,1,6,0,4,0,0,0,0,0,3,0,0,3,0]) (c := (cnF :: cnF :: cnF :: cnF :: cnF :: cnF :: cnF :: cnF :: cnF :: cnF :: cnF :: cnF :: cnF :: cnF :: cnT :: cnT :: cnT :: cnF :: cnT :: cnF :: cnF :: cnF :: cnF :: cnF :: cnF :: cnF :: Cnd.code (ZLT.lsumS (flOf tys) ((108, 0), ixL).snd).fst (ZLT.lsumS (flOf tys) ((108, 0), ixL).snd).fst :: cnT :: cnT :: cnT :: cnT :: cnT :: cnT :: cnT :: cnT :: cnT :: [])) (by kernel_rfl) ⟨h0, h0, h0, h0, h1, h2, h2, h2, h3, h4, h5, h5, h5, h5, h6, h6, h6, h5, h6, h5, h7, h7, h7, h7, h7, h7, rfl, h8, h9, h9, h10, h11, h12, h13, h8, h9, trivial⟩
theorem r6_fffffftff (h0 : (!ieqB ct (Int.ofNat 0)) = false) (h1 : (!ieqB fi (Int.ofNat 0)) = false) (h2 : (!false == iltB (Int.ofNat 0) (Int.ofNat ln)) = false) (h3 : (iltB (Int.ofNat 16) (Int.ofNat ln)) = false) (h4 : (iltB (Int.ofNat 0) (Int.ofNat dn)) = false) (h5 : (ileB (Int.ofNat 3) sub) = false) (h6 : (iltB (Int.ofNat 0) sub) = true) (h7 : (iltB (Int.ofNat 0) pl) = false) (h8 : (okD p440 dv) = false) (h9 : (AV.plainL dv) = true) (h10 : (isD dv) = true) (h11 : (dv.length.beq dn) = true) (h12 : (dn.beq dn) = true) (h13 : (dn.ble 1099511627776) = true) (h14 : (!okD p440 dv) = true) :
 rE (Int.ofNat 6) sub pl fi ct la ln lv da dn dv (!ileB (Int.ofNat 0) (Int.ofNat (badD p440 dv))) :=
 call_runZ (q := qNs [41,1,1,5,1,3,1,5,1,12,1,1,1,1,28,1,5,1,1,5,1,1,0,17,0,12,0,1,0,1,6,1,1,1,1,1,1,6,1,4,0,0,0,0,0,3,0,0,3,0]) (c := (cnF :: cnF :: cnF :: cnF :: cnF :: cnF :: cnF :: cnF :: cnF :: cnF :: cnF :: cnF :: cnF :: cnF :: cnT :: cnT :: cnT :: cnF :: cnT :: cnF :: cnF :: cnF :: cnF :: cnF :: cnF :: cnF :: Cnd.code (ZLT.lsumS (flOf tys) ((108, 0), ixL).snd).fst (ZLT.lsumS (flOf tys) ((108, 0), ixL).snd).fst :: cnF :: cnT :: cnT :: cnT :: cnT :: cnT :: cnT :: cnT :: cnT :: [])) (by kernel_rfl) ⟨h0, h0, h0, h0, h1, h2, h2, h2, h3, h4, h5, h5, h5, h5, h6, h6, h6, h5, h6, h5, h7, h7, h7, h7, h7, h7, rfl, h8, h9, h9, h10, h11, h12, h13, h14, h9, trivial⟩
theorem r6_fffffffft (h0 : (!ieqB ct (Int.ofNat 0)) = false) (h1 : (!ieqB fi (Int.ofNat 0)) = false) (h2 : (!false == iltB (Int.ofNat 0) (Int.ofNat ln)) = false) (h3 : (iltB (Int.ofNat 16) (Int.ofNat ln)) = false) (h4 : (iltB (Int.ofNat 0) (Int.ofNat dn)) = false) (h5 : (ileB (Int.ofNat 3) sub) = false) (h6 : (iltB (Int.ofNat 0) sub) = false) (h7 : (iltB (Int.ofNat 0) pl) = false) (h8 : (okD p440 dv) = true) (h9 : (AV.plainL dv) = true) (h10 : (isD dv) = true) (h11 : (dv.length.beq dn) = true) (h12 : (dn.beq dn) = true) (h13 : (dn.ble 1099511627776) = true) :
 rE (Int.ofNat 6) sub pl fi ct la ln lv da dn dv (true) :=
 call_runZ (q := qNs [41,1,1,5,1,3,1,5,1,12,1,1,1,1,28,1,5,1,1,5,1,1,1,1,1,1,1,1,6,1,1,1,1,1,1,6,0,4,0,0,0,0,0,3,0,0,3,0]) (c := (cnF :: cnF :: cnF :: cnF :: cnF :: cnF :: cnF :: cnF :: cnF :: cnF :: cnF :: cnF :: cnF :: cnF :: cnF :: cnF :: cnF :: cnF :: cnF :: cnF :: cnF :: cnF :: cnF :: cnF :: cnF :: cnF :: Cnd.code (ZLT.lsumS (flOf tys) ((108, 0), ixL).snd).fst (ZLT.lsumS (flOf tys) ((108, 0), ixL).snd).fst :: cnT :: cnT :: cnT :: cnT :: cnT :: cnT :: cnT :: cnT :: cnT :: [])) (by kernel_rfl) ⟨h0, h0, h0, h0, h1, h2, h2, h2, h3, h4, h5, h5, h5, h5, h6, h6, h6, h5, h6, h5, h7, h7, h7, h7, h7, h7, rfl, h8, h9, h9, h10, h11, h12, h13, h8, h9, trivial⟩
theorem r6_fffffffff (h0 : (!ieqB ct (Int.ofNat 0)) = false) (h1 : (!ieqB fi (Int.ofNat 0)) = false) (h2 : (!false == iltB (Int.ofNat 0) (Int.ofNat ln)) = false) (h3 : (iltB (Int.ofNat 16) (Int.ofNat ln)) = false) (h4 : (iltB (Int.ofNat 0) (Int.ofNat dn)) = false) (h5 : (ileB (Int.ofNat 3) sub) = false) (h6 : (iltB (Int.ofNat 0) sub) = false) (h7 : (iltB (Int.ofNat 0) pl) = false) (h8 : (okD p440 dv) = false) (h9 : (AV.plainL dv) = true) (h10 : (isD dv) = true) (h11 : (dv.length.beq dn) = true) (h12 : (dn.beq dn) = true) (h13 : (dn.ble 1099511627776) = true) (h14 : (!okD p440 dv) = true) :
 rE (Int.ofNat 6) sub pl fi ct la ln lv da dn dv (!ileB (Int.ofNat 0) (Int.ofNat (badD p440 dv))) :=
 call_runZ (q := qNs [41,1,1,5,1,3,1,5,1,12,1,1,1,1,28,1,5,1,1,5,1,1,1,1,1,1,1,1,6,1,1,1,1,1,1,6,1,4,0,0,0,0,0,3,0,0,3,0]) (c := (cnF :: cnF :: cnF :: cnF :: cnF :: cnF :: cnF :: cnF :: cnF :: cnF :: cnF :: cnF :: cnF :: cnF :: cnF :: cnF :: cnF :: cnF :: cnF :: cnF :: cnF :: cnF :: cnF :: cnF :: cnF :: cnF :: Cnd.code (ZLT.lsumS (flOf tys) ((108, 0), ixL).snd).fst (ZLT.lsumS (flOf tys) ((108, 0), ixL).snd).fst :: cnF :: cnT :: cnT :: cnT :: cnT :: cnT :: cnT :: cnT :: cnT :: [])) (by kernel_rfl) ⟨h0, h0, h0, h0, h1, h2, h2, h2, h3, h4, h5, h5, h5, h5, h6, h6, h6, h5, h6, h5, h7, h7, h7, h7, h7, h7, rfl, h8, h9, h9, h10, h11, h12, h13, h14, h9, trivial⟩
theorem r7_t (h0 : (!ieqB ct (Int.ofNat 0)) = true) :
 rE (Int.ofNat 7) sub pl fi ct la ln lv da dn dv (false) :=
 call_runZ (q := qNs [41,0,0,0,3,0,6]) (c := (cnT :: cnT :: cnT :: cnT :: [])) (by kernel_rfl) ⟨h0, h0, h0, h0, trivial⟩
theorem r7_ft (h0 : (!ieqB ct (Int.ofNat 0)) = false) (h1 : (!ieqB fi (Int.ofNat 0)) = true) :
 rE (Int.ofNat 7) sub pl fi ct la ln lv da dn dv (false) :=
 call_runZ (q := qNs [41,1,1,5,1,3,1,5,0]) (c := (cnF :: cnF :: cnF :: cnF :: cnT :: [])) (by kernel_rfl) ⟨h0, h0, h0, h0, h1, trivial⟩
theorem r7_fft (h0 : (!ieqB ct (Int.ofNat 0)) = false) (h1 : (!ieqB fi (Int.ofNat 0)) = false) (h2 : (!false == iltB (Int.ofNat 0) (Int.ofNat ln)) = true) :
 rE (Int.ofNat 7) sub pl fi ct la ln lv da dn dv (false) :=
 call_runZ (q := qNs [41,1,1,5,1,3,1,5,1,12,0,0,0,3]) (c := (cnF :: cnF :: cnF :: cnF :: cnF :: cnT :: cnT :: cnT :: [])) (by kernel_rfl) ⟨h0, h0, h0, h0, h1, h2, h2, h2, trivial⟩
theorem r7_ffft (h0 : (!ieqB ct (Int.ofNat 0)) = false) (h1 : (!ieqB fi (Int.ofNat 0)) = false) (h2 : (!false == iltB (Int.ofNat 0) (Int.ofNat ln)) = false) (h3 : (iltB (Int.ofNat 16) (Int.ofNat ln)) = true) :
 rE (Int.ofNat 7) sub pl fi ct la ln lv da dn dv (false) :=
 call_runZ (q := qNs [41,1,1,5,1,3,1,5,1,12,1,1,1,0]) (c := (cnF :: cnF :: cnF :: cnF :: cnF :: cnF :: cnF :: cnF :: cnT :: [])) (by kernel_rfl) ⟨h0, h0, h0, h0, h1, h2, h2, h2, h3, trivial⟩
theorem r7_fffft (h0 : (!ieqB ct (Int.ofNat 0)) = false) (h1 : (!ieqB fi (Int.ofNat 0)) = false) (h2 : (!false == iltB (Int.ofNat 0) (Int.ofNat ln)) = false) (h3 : (iltB (Int.ofNat 16) (Int.ofNat ln)) = false) (h4 : (iltB (Int.ofNat 0) (Int.ofNat dn)) = true) :
 rE (Int.ofNat 7) sub pl fi ct la ln lv da dn dv (false) :=
 call_runZ (q := qNs [41,1,1,5,1,3,1,5,1,12,1,1,1,1,28,0]) (c := (cnF :: cnF :: cnF :: cnF :: cnF :: cnF :: cnF :: cnF :: cnF :: cnT :: [])) (by kernel_rfl) ⟨h0, h0, h0, h0, h1, h2, h2, h2, h3, h4, trivial⟩
theorem r7_ffffft (h0 : (!ieqB ct (Int.ofNat 0)) = false) (h1 : (!ieqB fi (Int.ofNat 0)) = false) (h2 : (!false == iltB (Int.ofNat 0) (Int.ofNat ln)) = false) (h3 : (iltB (Int.ofNat 16) (Int.ofNat ln)) = false) (h4 : (iltB (Int.ofNat 0) (Int.ofNat dn)) = false) (h5 : (ileB (Int.ofNat 3) sub) = true) :
 rE (Int.ofNat 7) sub pl fi ct la ln lv da dn dv (false) :=
 call_runZ (q := qNs [41,1,1,5,1,3,1,5,1,12,1,1,1,1,28,1,5,0,0,0,0,0,0,3]) (c := (cnF :: cnF :: cnF :: cnF :: cnF :: cnF :: cnF :: cnF :: cnF :: cnF :: cnT :: cnT :: cnT :: cnT :: cnT :: cnT :: [])) (by kernel_rfl) ⟨h0, h0, h0, h0, h1, h2, h2, h2, h3, h4, h5, h5, h5, h5, h5, h5, trivial⟩
theorem r7_ffffffttt (h0 : (!ieqB ct (Int.ofNat 0)) = false) (h1 : (!ieqB fi (Int.ofNat 0)) = false) (h2 : (!false == iltB (Int.ofNat 0) (Int.ofNat ln)) = false) (h3 : (iltB (Int.ofNat 16) (Int.ofNat ln)) = false) (h4 : (iltB (Int.ofNat 0) (Int.ofNat dn)) = false) (h5 : (ileB (Int.ofNat 3) sub) = false) (h6 : (iltB (Int.ofNat 0) sub) = true) (h7 : (iltB (Int.ofNat 0) pl) = true) (h8 : (!ieqB sub (Int.ofNat 0)) = true) :
 rE (Int.ofNat 7) sub pl fi ct la ln lv da dn dv (false) :=
 call_runZ (q := qNs [41,1,1,5,1,3,1,5,1,12,1,1,1,1,28,1,5,1,1,5,1,1,0,17,0,12,0,1,0,1,6,0,0,5,0,0,8,0,3,0,0]) (c := (cnF :: cnF :: cnF :: cnF :: cnF :: cnF :: cnF :: cnF :: cnF :: cnF :: cnF :: cnF :: cnF :: cnF :: cnT :: cnT :: cnT :: cnF :: cnT :: cnF :: cnT :: cnT :: cnT :: cnT :: cnT :: cnT :: cnT :: [])) (by kernel_rfl) ⟨h0, h0, h0, h0, h1, h2, h2, h2, h3, h4, h5, h5, h5, h5, h6, h6, h6, h5, h6, h5, h7, h7, h7, h7, h7, h7, h8, trivial⟩
theorem r7_fffffftft (h0 : (!ieqB ct (Int.ofNat 0)) = false) (h1 : (!ieqB fi (Int.ofNat 0)) = false) (h2 : (!false == iltB (Int.ofNat 0) (Int.ofNat ln)) = false) (h3 : (iltB (Int.ofNat 16) (Int.ofNat ln)) = false) (h4 : (iltB (Int.ofNat 0) (Int.ofNat dn)) = false) (h5 : (ileB (Int.ofNat 3) sub) = false) (h6 : (iltB (Int.ofNat 0) sub) = true) (h7 : (iltB (Int.ofNat 0) pl) = false) (h8 : (okD p440 dv) = true) (h9 : (AV.plainL dv) = true) (h10 : (isD dv) = true) (h11 : (dv.length.beq dn) = true) (h12 : (dn.beq dn) = true) (h13 : (dn.ble 1099511627776) = true) :
 rE (Int.ofNat 7) sub pl fi ct la ln lv da dn dv (true) :=
 call_runZ (q := qNs [41,1,1,5,1,3,1,5,1,12,1,1,1,1,28,1,5,1,1,5,1,1,0,17,0,12,0,1,0,1,6,1,1,1,1,1,1,6,0,4,0,0,0,0,0,3,0,0,3,0]) (c := (cnF :: cnF :: cnF :: cnF :: cnF :: cnF :: cnF :: cnF :: cnF :: cnF :: cnF :: cnF :: cnF :: cnF :: cnT :: cnT :: cnT :: cnF :: cnT :: cnF :: cnF :: cnF :: cnF :: cnF :: cnF :: cnF :: Cnd.code (ZLT.lsumS (flOf tys) ((108, 0), ixL).snd).fst (ZLT.lsumS (flOf tys) ((108, 0), ixL).snd).fst :: cnT :: cnT :: cnT :: cnT :: cnT :: cnT :: cnT :: cnT :: cnT :: [])) (by kernel_rfl) ⟨h0, h0, h0, h0, h1, h2, h2, h2, h3, h4, h5, h5, h5, h5, h6, h6, h6, h5, h6, h5, h7, h7, h7, h7, h7, h7, rfl, h8, h9, h9, h10, h11, h12, h13, h8, h9, trivial⟩
theorem r7_fffffftff (h0 : (!ieqB ct (Int.ofNat 0)) = false) (h1 : (!ieqB fi (Int.ofNat 0)) = false) (h2 : (!false == iltB (Int.ofNat 0) (Int.ofNat ln)) = false) (h3 : (iltB (Int.ofNat 16) (Int.ofNat ln)) = false) (h4 : (iltB (Int.ofNat 0) (Int.ofNat dn)) = false) (h5 : (ileB (Int.ofNat 3) sub) = false) (h6 : (iltB (Int.ofNat 0) sub) = true) (h7 : (iltB (Int.ofNat 0) pl) = false) (h8 : (okD p440 dv) = false) (h9 : (AV.plainL dv) = true) (h10 : (isD dv) = true) (h11 : (dv.length.beq dn) = true) (h12 : (dn.beq dn) = true) (h13 : (dn.ble 1099511627776) = true) (h14 : (!okD p440 dv) = true) :
 rE (Int.ofNat 7) sub pl fi ct la ln lv da dn dv (!ileB (Int.ofNat 0) (Int.ofNat (badD p440 dv))) :=
 call_runZ (q := qNs [41,1,1,5,1,3,1,5,1,12,1,1,1,1,28,1,5,1,1,5,1,1,0,17,0,12,0,1,0,1,6,1,1,1,1,1,1,6,1,4,0,0,0,0,0,3,0,0,3,0]) (c := (cnF :: cnF :: cnF :: cnF :: cnF :: cnF :: cnF :: cnF :: cnF :: cnF :: cnF :: cnF :: cnF :: cnF :: cnT :: cnT :: cnT :: cnF :: cnT :: cnF :: cnF :: cnF :: cnF :: cnF :: cnF :: cnF :: Cnd.code (ZLT.lsumS (flOf tys) ((108, 0), ixL).snd).fst (ZLT.lsumS (flOf tys) ((108, 0), ixL).snd).fst :: cnF :: cnT :: cnT :: cnT :: cnT :: cnT :: cnT :: cnT :: cnT :: [])) (by kernel_rfl) ⟨h0, h0, h0, h0, h1, h2, h2, h2, h3, h4, h5, h5, h5, h5, h6, h6, h6, h5, h6, h5, h7, h7, h7, h7, h7, h7, rfl, h8, h9, h9, h10, h11, h12, h13, h14, h9, trivial⟩
theorem r7_ffffffftt (h0 : (!ieqB ct (Int.ofNat 0)) = false) (h1 : (!ieqB fi (Int.ofNat 0)) = false) (h2 : (!false == iltB (Int.ofNat 0) (Int.ofNat ln)) = false) (h3 : (iltB (Int.ofNat 16) (Int.ofNat ln)) = false) (h4 : (iltB (Int.ofNat 0) (Int.ofNat dn)) = false) (h5 : (ileB (Int.ofNat 3) sub) = false) (h6 : (iltB (Int.ofNat 0) sub) = false) (h7 : (iltB (Int.ofNat 0) pl) = true) (h8 : (!ieqB sub (Int.ofNat 0)) = true) :
 rE (Int.ofNat 7) sub pl fi ct la ln lv da dn dv (false) :=
 call_runZ (q := qNs [41,1,1,5,1,3,1,5,1,12,1,1,1,1,28,1,5,1,1,5,1,1,1,1,1,1,1,1,6,0,0,5,0,0,8,0,3,0,0]) (c := (cnF :: cnF :: cnF :: cnF :: cnF :: cnF :: cnF :: cnF :: cnF :: cnF :: cnF :: cnF :: cnF :: cnF :: cnF :: cnF :: cnF :: cnF :: cnF :: cnF :: cnT :: cnT :: cnT :: cnT :: cnT :: cnT :: cnT :: [])) (by kernel_rfl) ⟨h0, h0, h0, h0, h1, h2, h2, h2, h3, h4, h5, h5, h5, h5, h6, h6, h6, h5, h6, h5, h7, h7, h7, h7, h7, h7, h8, trivial⟩
theorem r7_fffffffft (h0 : (!ieqB ct (Int.ofNat 0)) = false) (h1 : (!ieqB fi (Int.ofNat 0)) = false) (h2 : (!false == iltB (Int.ofNat 0) (Int.ofNat ln)) = false) (h3 : (iltB (Int.ofNat 16) (Int.ofNat ln)) = false) (h4 : (iltB (Int.ofNat 0) (Int.ofNat dn)) = false) (h5 : (ileB (Int.ofNat 3) sub) = false) (h6 : (iltB (Int.ofNat 0) sub) = false) (h7 : (iltB (Int.ofNat 0) pl) = false) (h8 : (okD p440 dv) = true) (h9 : (AV.plainL dv) = true) (h10 : (isD dv) = true) (h11 : (dv.length.beq dn) = true) (h12 : (dn.beq dn) = true) (h13 : (dn.ble 1099511627776) = true) :
 rE (Int.ofNat 7) sub pl fi ct la ln lv da dn dv (true) :=
 call_runZ (q := qNs [41,1,1,5,1,3,1,5,1,12,1,1,1,1,28,1,5,1,1,5,1,1,1,1,1,1,1,1,6,1,1,1,1,1,1,6,0,4,0,0,0,0,0,3,0,0,3,0]) (c := (cnF :: cnF :: cnF :: cnF :: cnF :: cnF :: cnF :: cnF :: cnF :: cnF :: cnF :: cnF :: cnF :: cnF :: cnF :: cnF :: cnF :: cnF :: cnF :: cnF :: cnF :: cnF :: cnF :: cnF :: cnF :: cnF :: Cnd.code (ZLT.lsumS (flOf tys) ((108, 0), ixL).snd).fst (ZLT.lsumS (flOf tys) ((108, 0), ixL).snd).fst :: cnT :: cnT :: cnT :: cnT :: cnT :: cnT :: cnT :: cnT :: cnT :: [])) (by kernel_rfl) ⟨h0, h0, h0, h0, h1, h2, h2, h2, h3, h4, h5, h5, h5, h5, h6, h6, h6, h5, h6, h5, h7, h7, h7, h7, h7, h7, rfl, h8, h9, h9, h10, h11, h12, h13, h8, h9, trivial⟩
theorem r7_fffffffff (h0 : (!ieqB ct (Int.ofNat 0)) = false) (h1 : (!ieqB fi (Int.ofNat 0)) = false) (h2 : (!false == iltB (Int.ofNat 0) (Int.ofNat ln)) = false) (h3 : (iltB (Int.ofNat 16) (Int.ofNat ln)) = false) (h4 : (iltB (Int.ofNat 0) (Int.ofNat dn)) = false) (h5 : (ileB (Int.ofNat 3) sub) = false) (h6 : (iltB (Int.ofNat 0) sub) = false) (h7 : (iltB (Int.ofNat 0) pl) = false) (h8 : (okD p440 dv) = false) (h9 : (AV.plainL dv) = true) (h10 : (isD dv) = true) (h11 : (dv.length.beq dn) = true) (h12 : (dn.beq dn) = true) (h13 : (dn.ble 1099511627776) = true) (h14 : (!okD p440 dv) = true) :
 rE (Int.ofNat 7) sub pl fi ct la ln lv da dn dv (!ileB (Int.ofNat 0) (Int.ofNat (badD p440 dv))) :=
 call_runZ (q := qNs [41,1,1,5,1,3,1,5,1,12,1,1,1,1,28,1,5,1,1,5,1,1,1,1,1,1,1,1,6,1,1,1,1,1,1,6,1,4,0,0,0,0,0,3,0,0,3,0]) (c := (cnF :: cnF :: cnF :: cnF :: cnF :: cnF :: cnF :: cnF :: cnF :: cnF :: cnF :: cnF :: cnF :: cnF :: cnF :: cnF :: cnF :: cnF :: cnF :: cnF :: cnF :: cnF :: cnF :: cnF :: cnF :: cnF :: Cnd.code (ZLT.lsumS (flOf tys) ((108, 0), ixL).snd).fst (ZLT.lsumS (flOf tys) ((108, 0), ixL).snd).fst :: cnF :: cnT :: cnT :: cnT :: cnT :: cnT :: cnT :: cnT :: cnT :: [])) (by kernel_rfl) ⟨h0, h0, h0, h0, h1, h2, h2, h2, h3, h4, h5, h5, h5, h5, h6, h6, h6, h5, h6, h5, h7, h7, h7, h7, h7, h7, rfl, h8, h9, h9, h10, h11, h12, h13, h14, h9, trivial⟩
theorem r7_ffffffttft (h0 : (!ieqB ct (Int.ofNat 0)) = false) (h1 : (!ieqB fi (Int.ofNat 0)) = false) (h2 : (!false == iltB (Int.ofNat 0) (Int.ofNat ln)) = false) (h3 : (iltB (Int.ofNat 16) (Int.ofNat ln)) = false) (h4 : (iltB (Int.ofNat 0) (Int.ofNat dn)) = false) (h5 : (ileB (Int.ofNat 3) sub) = false) (h6 : (iltB (Int.ofNat 0) sub) = true) (h7 : (iltB (Int.ofNat 0) pl) = true) (h8 : (!ieqB sub (Int.ofNat 0)) = false) (h9 : (okD p440 dv) = true) (h10 : (AV.plainL dv) = true) (h11 : (isD dv) = true) (h12 : (dv.length.beq dn) = true) (h13 : (dn.beq dn) = true) (h14 : (dn.ble 1099511627776) = true) :
 rE (Int.ofNat 7) sub pl fi ct la ln lv da dn dv (true) :=
 call_runZ (q := qNs [41,1,1,5,1,3,1,5,1,12,1,1,1,1,28,1,5,1,1,5,1,1,0,17,0,12,0,1,0,1,6,0,0,5,0,0,8,0,3,0,1,5,0,4,0,0,0,0,0,3,0,0,3,0]) (c := (cnF :: cnF :: cnF :: cnF :: cnF :: cnF :: cnF :: cnF :: cnF :: cnF :: cnF :: cnF :: cnF :: cnF :: cnT :: cnT :: cnT :: cnF :: cnT :: cnF :: cnT :: cnT :: cnT :: cnT :: cnT :: cnT :: cnF :: Cnd.code (ZLT.lsumS (flOf tys) ((108, 0), ixL).snd).fst (ZLT.lsumS (flOf tys) ((108, 0), ixL).snd).fst :: cnT :: cnT :: cnT :: cnT :: cnT :: cnT :: cnT :: cnT :: cnT :: [])) (by kernel_rfl) ⟨h0, h0, h0, h0, h1, h2, h2, h2, h3, h4, h5, h5, h5, h5, h6, h6, h6, h5, h6, h5, h7, h7, h7, h7, h7, h7, h8, rfl, h9, h10, h10, h11, h12, h13, h14, h9, h10, trivial⟩
theorem r7_ffffffttff (h0 : (!ieqB ct (Int.ofNat 0)) = false) (h1 : (!ieqB fi (Int.ofNat 0)) = false) (h2 : (!false == iltB (Int.ofNat 0) (Int.ofNat ln)) = false) (h3 : (iltB (Int.ofNat 16) (Int.ofNat ln)) = false) (h4 : (iltB (Int.ofNat 0) (Int.ofNat dn)) = false) (h5 : (ileB (Int.ofNat 3) sub) = false) (h6 : (iltB (Int.ofNat 0) sub) = true) (h7 : (iltB (Int.ofNat 0) pl) = true) (h8 : (!ieqB sub (Int.ofNat 0)) = false) (h9 : (okD p440 dv) = false) (h10 : (AV.plainL dv) = true) (h11 : (isD dv) = true) (h12 : (dv.length.beq dn) = true) (h13 : (dn.beq dn) = true) (h14 : (dn.ble 1099511627776) = true) (h15 : (!okD p440 dv) = true) :
 rE (Int.ofNat 7) sub pl fi ct la ln lv da dn dv (!ileB (Int.ofNat 0) (Int.ofNat (badD p440 dv))) :=
 call_runZ (q := qNs [41,1,1,5,1,3,1,5,1,12,1,1,1,1,28,1,5,1,1,5,1,1,0,17,0,12,0,1,0,1,6,0,0,5,0,0,8,0,3,0,1,5,1,4,0,0,0,0,0,3,0,0,3,0]) (c := (cnF :: cnF :: cnF :: cnF :: cnF :: cnF :: cnF :: cnF :: cnF :: cnF :: cnF :: cnF :: cnF :: cnF :: cnT :: cnT :: cnT :: cnF :: cnT :: cnF :: cnT :: cnT :: cnT :: cnT :: cnT :: cnT :: cnF :: Cnd.code (ZLT.lsumS (flOf tys) ((108, 0), ixL).snd).fst (ZLT.lsumS (flOf tys) ((108, 0), ixL).snd).fst :: cnF :: cnT :: cnT :: cnT :: cnT :: cnT :: cnT :: cnT :: cnT :: [])) (by kernel_rfl) ⟨h0, h0, h0, h0, h1, h2, h2, h2, h3, h4, h5, h5, h5, h5, h6, h6, h6, h5, h6, h5, h7, h7, h7, h7, h7, h7, h8, rfl, h9, h10, h10, h11, h12, h13, h14, h15, h10, trivial⟩
theorem r7_ffffffftft (h0 : (!ieqB ct (Int.ofNat 0)) = false) (h1 : (!ieqB fi (Int.ofNat 0)) = false) (h2 : (!false == iltB (Int.ofNat 0) (Int.ofNat ln)) = false) (h3 : (iltB (Int.ofNat 16) (Int.ofNat ln)) = false) (h4 : (iltB (Int.ofNat 0) (Int.ofNat dn)) = false) (h5 : (ileB (Int.ofNat 3) sub) = false) (h6 : (iltB (Int.ofNat 0) sub) = false) (h7 : (iltB (Int.ofNat 0) pl) = true) (h8 : (!ieqB sub (Int.ofNat 0)) = false) (h9 : (okD p440 dv) = true) (h10 : (AV.plainL dv) = true) (h11 : (isD dv) = true) (h12 : (dv.length.beq dn) = true) (h13 : (dn.beq dn) = true) (h14 : (dn.ble 1099511627776) = true) :
 rE (Int.ofNat 7) sub pl fi ct la ln lv da dn dv (true) :=
 call_runZ (q := qNs [41,1,1,5,1,3,1,5,1,12,1,1,1,1,28,1,5,1,1,5,1,1,1,1,1,1,1,1,6,0,0,5,0,0,8,0,3,0,1,5,0,4,0,0,0,0,0,3,0,0,3,0]) (c := (cnF :: cnF :: cnF :: cnF :: cnF :: cnF :: cnF :: cnF :: cnF :: cnF :: cnF :: cnF :: cnF :: cnF :: cnF :: cnF :: cnF :: cnF :: cnF :: cnF :: cnT :: cnT :: cnT :: cnT :: cnT :: cnT :: cnF :: Cnd.code (ZLT.lsumS (flOf tys) ((108, 0), ixL).snd).fst (ZLT.lsumS (flOf tys) ((108, 0), ixL).snd).fst :: cnT :: cnT :: cnT :: cnT :: cnT :: cnT :: cnT :: cnT :: cnT :: [])) (by kernel_rfl) ⟨h0, h0, h0, h0, h1, h2, h2, h2, h3, h4, h5, h5, h5, h5, h6, h6, h6, h5, h6, h5, h7, h7, h7, h7, h7, h7, h8, rfl, h9, h10, h10, h11, h12, h13, h14, h9, h10, trivial⟩
theorem r7_ffffffftff (h0 : (!ieqB ct (Int.ofNat 0)) = false) (h1 : (!ieqB fi (Int.ofNat 0)) = false) (h2 : (!false == iltB (Int.ofNat 0) (Int.ofNat ln)) = false) (h3 : (iltB (Int.ofNat 16) (Int.ofNat ln)) = false) (h4 : (iltB (Int.ofNat 0) (Int.ofNat dn)) = false) (h5 : (ileB (Int.ofNat 3) sub) = false) (h6 : (iltB (Int.ofNat 0) sub) = false) (h7 : (iltB (Int.ofNat 0) pl) = true) (h8 : (!ieqB sub (Int.ofNat 0)) = false) (h9 : (okD p440 dv) = false) (h10 : (AV.plainL dv) = true) (h11 : (isD dv) = true) (h12 : (dv.length.beq dn) = true) (h13 : (dn.beq dn) = true) (h14 : (dn.ble 1099511627776) = true) (h15 : (!okD p440 dv) = true) :
 rE (Int.ofNat 7) sub pl fi ct la ln lv da dn dv (!ileB (Int.ofNat 0) (Int.ofNat (badD p440 dv))) :=
 call_runZ (q := qNs [41,1,1,5,1,3,1,5,1,12,1,1,1,1,28,1,5,1,1,5,1,1,1,1,1,1,1,1,6,0,0,5,0,0,8,0,3,0,1,5,1,4,0,0,0,0,0,3,0,0,3,0]) (c := (cnF :: cnF :: cnF :: cnF :: cnF :: cnF :: cnF :: cnF :: cnF :: cnF :: cnF :: cnF :: cnF :: cnF :: cnF :: cnF :: cnF :: cnF :: cnF :: cnF :: cnT :: cnT :: cnT :: cnT :: cnT :: cnT :: cnF :: Cnd.code (ZLT.lsumS (flOf tys) ((108, 0), ixL).snd).fst (ZLT.lsumS (flOf tys) ((108, 0), ixL).snd).fst :: cnF :: cnT :: cnT :: cnT :: cnT :: cnT :: cnT :: cnT :: cnT :: [])) (by kernel_rfl) ⟨h0, h0, h0, h0, h1, h2, h2, h2, h3, h4, h5, h5, h5, h5, h6, h6, h6, h5, h6, h5, h7, h7, h7, h7, h7, h7, h8, rfl, h9, h10, h10, h11, h12, h13, h14, h15, h10, trivial⟩
theorem r8_t (op : Int) (h0 : (iltB op (Int.ofNat 1)) = true) :
 rE op sub pl fi ct la ln lv da dn dv (false) :=
 call_runZ (q := qNs [8,0,0,0,0,3]) (c := (cnT :: cnT :: cnT :: cnT :: [])) (by kernel_rfl) ⟨h0, h0, h0, h0, trivial⟩
theorem r8_ft (op : Int) (h0 : (iltB op (Int.ofNat 1)) = false) (h1 : (ileB (Int.ofNat 8) op) = true) :
 rE op sub pl fi ct la ln lv da dn dv (false) :=
 call_runZ (q := qNs [8,1,1,5,1,1,0]) (c := (cnF :: cnF :: cnF :: cnF :: cnT :: [])) (by kernel_rfl) ⟨h0, h0, h0, h0, h1, trivial⟩
theorem right_1 (s0 : 0 ≤ sub) (p0 : 0 ≤ pl) (wc : wrapA IntKind.i64 ct = ct) (k1 : isD dv = true) (k2 : (dv.length.beq dn) = true) (k3 : (dn.ble 1099511627776) = true) (k4 : AV.plainL lv = true) (k5 : AV.plainL dv = true) : rG (Int.ofNat 1) sub pl fi ct la ln lv da dn dv := by
 cases q0 : (ileB (Int.ofNat 1) (wrapA IntKind.i64 ct)) with
 | true =>
  cases q1 : (!ileB (wrapA IntKind.i64 ct) (Int.ofNat 16)) with
  | true =>
   exact rNo (r1_tt q0 q1) (by simp only [SL] at *; unfold RightP; omega)
  | false =>
   cases q2 : (iltB (Int.ofNat 0) (Int.ofNat ln)) with
   | true =>
    exact rNo (r1_tft q0 q1 q2) (by simp only [SL] at *; unfold RightP; omega)
   | false =>
    cases q3 : (!false == iltB (Int.ofNat 0) (Int.ofNat ln)) with
    | true =>
     exact rNo (r1_tfft q0 q1 q2 q3) (by simp only [SL] at *; unfold RightP; omega)
    | false =>
     cases q4 : (iltB (Int.ofNat 16) (Int.ofNat ln)) with
     | true =>
      exact rNo (r1_tffft q0 q1 q2 q3 q4) (by simp only [SL] at *; unfold RightP; omega)
     | false =>
      cases q5 : (iltB (Int.ofNat 0) (Int.ofNat dn)) with
      | true =>
       exact rNo (r1_tfffft q0 q1 q2 q3 q4 q5) (by simp only [SL] at *; unfold RightP; omega)
      | false =>
       cases q6 : (ileB (Int.ofNat 3) sub) with
       | true =>
        exact rNo (r1_tffffft q0 q1 q2 q3 q4 q5 q6) (by simp only [SL] at *; unfold RightP; omega)
       | false =>
        cases q7 : (iltB (Int.ofNat 0) sub) with
        | true =>
         exact rNo (r1_tfffffft q0 q1 q2 q3 q4 q5 q6 q7) (by simp only [SL] at *; unfold RightP; omega)
        | false =>
         cases q8 : (iltB (Int.ofNat 0) pl) with
         | true =>
          exact rNo (r1_tffffffft q0 q1 q2 q3 q4 q5 q6 q7 q8) (by simp only [SL] at *; unfold RightP; omega)
         | false =>
          cases q9 : (okD p440 dv) with
          | true =>
           exact rSo (b := true) (r1_tfffffffft q0 q1 q2 q3 q4 q5 q6 q7 q8 q9 k5 k1 k2 (Nat.beq_refl _) k3) (by clear q9; simp only [SL] at *; unfold RightP; omega) q9
          | false =>
           exact rSo (b := false) (r1_tfffffffff q0 q1 q2 q3 q4 q5 q6 q7 q8 q9 k5 k1 k2 (Nat.beq_refl _) k3 (by rw [q9]; rfl)) (by clear q9; simp only [SL] at *; unfold RightP; omega) q9
 | false =>
  exact rNo (r1_f q0) (by simp only [SL] at *; unfold RightP; omega)
theorem right_2 (s0 : 0 ≤ sub) (p0 : 0 ≤ pl) (wc : wrapA IntKind.i64 ct = ct) (k1 : isD dv = true) (k2 : (dv.length.beq dn) = true) (k3 : (dn.ble 1099511627776) = true) (k4 : AV.plainL lv = true) (k5 : AV.plainL dv = true) : rG (Int.ofNat 2) sub pl fi ct la ln lv da dn dv := by
 cases q0 : (!ieqB ct (Int.ofNat 0)) with
 | true =>
  exact rNo (r2_t q0) (by simp only [SL] at *; unfold RightP; omega)
 | false =>
  cases q1 : (!ieqB fi (Int.ofNat 0)) with
  | true =>
   exact rNo (r2_ft q0 q1) (by simp only [SL] at *; unfold RightP; omega)
  | false =>
   cases q2 : (!true == iltB (Int.ofNat 0) (Int.ofNat ln)) with
   | true =>
    exact rNo (r2_fft q0 q1 q2) (by simp only [SL] at *; unfold RightP; omega)
   | false =>
    cases q3 : (iltB (Int.ofNat 16) (Int.ofNat ln)) with
    | true =>
     exact rNo (r2_ffft q0 q1 q2 q3) (by simp only [SL] at *; unfold RightP; omega)
    | false =>
     cases q4 : (!ieqB (Int.ofNat dn) (Int.ofNat ln)) with
     | true =>
      exact rNo (r2_fffft q0 q1 q2 q3 q4) (by simp only [SL] at *; unfold RightP; omega)
     | false =>
      cases q5 : (ileB (Int.ofNat 3) sub) with
      | true =>
       exact rNo (r2_ffffft q0 q1 q2 q3 q4 q5) (by simp only [SL] at *; unfold RightP; omega)
      | false =>
       cases q6 : (iltB (Int.ofNat 0) sub) with
       | true =>
        exact rNo (r2_fffffft q0 q1 q2 q3 q4 q5 q6) (by simp only [SL] at *; unfold RightP; omega)
       | false =>
        cases q7 : (iltB (Int.ofNat 0) pl) with
        | true =>
         exact rNo (r2_ffffffft q0 q1 q2 q3 q4 q5 q6 q7) (by simp only [SL] at *; unfold RightP; omega)
        | false =>
         cases q8 : (okD p440 dv) with
         | true =>
          exact rSo (b := true) (r2_fffffffft q0 q1 q2 q3 q4 q5 q6 q7 q8 k5 k1 k2 (Nat.beq_refl _) k3) (by clear q8; simp only [SL] at *; unfold RightP; omega) q8
         | false =>
          exact rSo (b := false) (r2_fffffffff q0 q1 q2 q3 q4 q5 q6 q7 q8 k5 k1 k2 (Nat.beq_refl _) k3 (by rw [q8]; rfl)) (by clear q8; simp only [SL] at *; unfold RightP; omega) q8
theorem right_3 (s0 : 0 ≤ sub) (p0 : 0 ≤ pl) (wc : wrapA IntKind.i64 ct = ct) (k1 : isD dv = true) (k2 : (dv.length.beq dn) = true) (k3 : (dn.ble 1099511627776) = true) (k4 : AV.plainL lv = true) (k5 : AV.plainL dv = true) : rG (Int.ofNat 3) sub pl fi ct la ln lv da dn dv := by
 cases q0 : (!ieqB ct (Int.ofNat 0)) with
 | true =>
  exact rNo (r3_t q0) (by simp only [SL] at *; unfold RightP; omega)
 | false =>
  cases q1 : (!ieqB fi (Int.ofNat 0)) with
  | true =>
   exact rNo (r3_ft q0 q1) (by simp only [SL] at *; unfold RightP; omega)
  | false =>
   cases q2 : (!true == iltB (Int.ofNat 0) (Int.ofNat ln)) with
   | true =>
    exact rNo (r3_fft q0 q1 q2) (by simp only [SL] at *; unfold RightP; omega)
   | false =>
    cases q3 : (iltB (Int.ofNat 16) (Int.ofNat ln)) with
    | true =>
     exact rNo (r3_ffft q0 q1 q2 q3) (by simp only [SL] at *; unfold RightP; omega)
    | false =>
     cases q4 : (iltB (Int.ofNat 0) (Int.ofNat dn)) with
     | true =>
      exact rNo (r3_fffft q0 q1 q2 q3 q4) (by simp only [SL] at *; unfold RightP; omega)
     | false =>
      cases q5 : (ileB (Int.ofNat 3) sub) with
      | true =>
       exact rNo (r3_ffffft q0 q1 q2 q3 q4 q5) (by simp only [SL] at *; unfold RightP; omega)
      | false =>
       cases q6 : (iltB (Int.ofNat 0) sub) with
       | true =>
        exact rNo (r3_fffffft q0 q1 q2 q3 q4 q5 q6) (by simp only [SL] at *; unfold RightP; omega)
       | false =>
        cases q7 : (iltB (Int.ofNat 0) pl) with
        | true =>
         exact rNo (r3_ffffffft q0 q1 q2 q3 q4 q5 q6 q7) (by simp only [SL] at *; unfold RightP; omega)
        | false =>
         cases q8 : (okD p440 dv) with
         | true =>
          exact rSo (b := true) (r3_fffffffft q0 q1 q2 q3 q4 q5 q6 q7 q8 k5 k1 k2 (Nat.beq_refl _) k3) (by clear q8; simp only [SL] at *; unfold RightP; omega) q8
         | false =>
          exact rSo (b := false) (r3_fffffffff q0 q1 q2 q3 q4 q5 q6 q7 q8 k5 k1 k2 (Nat.beq_refl _) k3 (by rw [q8]; rfl)) (by clear q8; simp only [SL] at *; unfold RightP; omega) q8
theorem right_4 (s0 : 0 ≤ sub) (p0 : 0 ≤ pl) (wc : wrapA IntKind.i64 ct = ct) (k1 : isD dv = true) (k2 : (dv.length.beq dn) = true) (k3 : (dn.ble 1099511627776) = true) (k4 : AV.plainL lv = true) (k5 : AV.plainL dv = true) : rG (Int.ofNat 4) sub pl fi ct la ln lv da dn dv := by
 cases q0 : (!ieqB ct (Int.ofNat 0)) with
 | true =>
  exact rNo (r4_t q0) (by simp only [SL] at *; unfold RightP; omega)
 | false =>
  cases q1 : (!ieqB fi (Int.ofNat 0)) with
  | true =>
   exact rNo (r4_ft q0 q1) (by simp only [SL] at *; unfold RightP; omega)
  | false =>
   cases q2 : (!false == iltB (Int.ofNat 0) (Int.ofNat ln)) with
   | true =>
    exact rNo (r4_fft q0 q1 q2) (by simp only [SL] at *; unfold RightP; omega)
   | false =>
    cases q3 : (iltB (Int.ofNat 16) (Int.ofNat ln)) with
    | true =>
     exact rNo (r4_ffft q0 q1 q2 q3) (by simp only [SL] at *; unfold RightP; omega)
    | false =>
     cases q4 : (iltB (Int.ofNat 0) (Int.ofNat dn)) with
     | true =>
      exact rNo (r4_fffft q0 q1 q2 q3 q4) (by simp only [SL] at *; unfold RightP; omega)
     | false =>
      cases q5 : (ileB (Int.ofNat 3) sub) with
      | true =>
       exact rNo (r4_ffffft q0 q1 q2 q3 q4 q5) (by simp only [SL] at *; unfold RightP; omega)
      | false =>
       cases q6 : (iltB (Int.ofNat 0) sub) with
       | true =>
        exact rNo (r4_fffffft q0 q1 q2 q3 q4 q5 q6) (by simp only [SL] at *; unfold RightP; omega)
       | false =>
        cases q7 : (iltB (Int.ofNat 0) pl) with
        | true =>
         exact rNo (r4_ffffffft q0 q1 q2 q3 q4 q5 q6 q7) (by simp only [SL] at *; unfold RightP; omega)
        | false =>
         cases q8 : (okD p440 dv) with
         | true =>
          exact rSo (b := true) (r4_fffffffft q0 q1 q2 q3 q4 q5 q6 q7 q8 k5 k1 k2 (Nat.beq_refl _) k3) (by clear q8; simp only [SL] at *; unfold RightP; omega) q8
         | false =>
          exact rSo (b := false) (r4_fffffffff q0 q1 q2 q3 q4 q5 q6 q7 q8 k5 k1 k2 (Nat.beq_refl _) k3 (by rw [q8]; rfl)) (by clear q8; simp only [SL] at *; unfold RightP; omega) q8
theorem right_5 (s0 : 0 ≤ sub) (p0 : 0 ≤ pl) (wc : wrapA IntKind.i64 ct = ct) (k1 : isD dv = true) (k2 : (dv.length.beq dn) = true) (k3 : (dn.ble 1099511627776) = true) (k4 : AV.plainL lv = true) (k5 : AV.plainL dv = true) : rG (Int.ofNat 5) sub pl fi ct la ln lv da dn dv := by
 cases q0 : (!ieqB ct (Int.ofNat 0)) with
 | true =>
  exact rNo (r5_t q0) (by simp only [SL] at *; unfold RightP; omega)
 | false =>
  cases q1 : (!ieqB fi (Int.ofNat 0)) with
  | true =>
   exact rNo (r5_ft q0 q1) (by simp only [SL] at *; unfold RightP; omega)
  | false =>
   cases q2 : (!false == iltB (Int.ofNat 0) (Int.ofNat ln)) with
   | true =>
    exact rNo (r5_fft q0 q1 q2) (by simp only [SL] at *; unfold RightP; omega)
   | false =>
    cases q3 : (iltB (Int.ofNat 16) (Int.ofNat ln)) with
    | true =>
     exact rNo (r5_ffft q0 q1 q2 q3) (by simp only [SL] at *; unfold RightP; omega)
    | false =>
     cases q4 : (iltB (Int.ofNat 0) (Int.ofNat dn)) with
     | true =>
      exact rNo (r5_fffft q0 q1 q2 q3 q4) (by simp only [SL] at *; unfold RightP; omega)
     | false =>
      cases q5 : (ileB (Int.ofNat 3) sub) with
      | true =>
       exact rNo (r5_ffffft q0 q1 q2 q3 q4 q5) (by simp only [SL] at *; unfold RightP; omega)
      | false =>
       cases q6 : (iltB (Int.ofNat 0) sub) with
       | true =>
        cases q7 : (iltB (Int.ofNat 0) pl) with
        | true =>
         exact rNo (r5_fffffftt q0 q1 q2 q3 q4 q5 q6 q7) (by simp only [SL] at *; unfold RightP; omega)
        | false =>
         cases q8 : (okD p440 dv) with
         | true =>
          exact rSo (b := true) (r5_fffffftft q0 q1 q2 q3 q4 q5 q6 q7 q8 k5 k1 k2 (Nat.beq_refl _) k3) (by clear q8; simp only [SL] at *; unfold RightP; omega) q8
         | false =>
          exact rSo (b := false) (r5_fffffftff q0 q1 q2 q3 q4 q5 q6 q7 q8 k5 k1 k2 (Nat.beq_refl _) k3 (by rw [q8]; rfl)) (by clear q8; simp only [SL] at *; unfold RightP; omega) q8
       | false =>
        cases q7 : (iltB (Int.ofNat 0) pl) with
        | true =>
         exact rNo (r5_ffffffft q0 q1 q2 q3 q4 q5 q6 q7) (by simp only [SL] at *; unfold RightP; omega)
        | false =>
         cases q8 : (okD p440 dv) with
         | true =>
          exact rSo (b := true) (r5_fffffffft q0 q1 q2 q3 q4 q5 q6 q7 q8 k5 k1 k2 (Nat.beq_refl _) k3) (by clear q8; simp only [SL] at *; unfold RightP; omega) q8
         | false =>
          exact rSo (b := false) (r5_fffffffff q0 q1 q2 q3 q4 q5 q6 q7 q8 k5 k1 k2 (Nat.beq_refl _) k3 (by rw [q8]; rfl)) (by clear q8; simp only [SL] at *; unfold RightP; omega) q8
theorem right_6 (s0 : 0 ≤ sub) (p0 : 0 ≤ pl) (wc : wrapA IntKind.i64 ct = ct) (k1 : isD dv = true) (k2 : (dv.length.beq dn) = true) (k3 : (dn.ble 1099511627776) = true) (k4 : AV.plainL lv = true) (k5 : AV.plainL dv = true) : rG (Int.ofNat 6) sub pl fi ct la ln lv da dn dv := by
 cases q0 : (!ieqB ct (Int.ofNat 0)) with
 | true =>
  exact rNo (r6_t q0) (by simp only [SL] at *; unfold RightP; omega)
 | false =>
  cases q1 : (!ieqB fi (Int.ofNat 0)) with
  | true =>
   exact rNo (r6_ft q0 q1) (by simp only [SL] at *; unfold RightP; omega)
  | false =>
   cases q2 : (!false == iltB (Int.ofNat 0) (Int.ofNat ln)) with
   | true =>
    exact rNo (r6_fft q0 q1 q2) (by simp only [SL] at *; unfold RightP; omega)
   | false =>
    cases q3 : (iltB (Int.ofNat 16) (Int.ofNat ln)) with
    | true =>
     exact rNo (r6_ffft q0 q1 q2 q3) (by simp only [SL] at *; unfold RightP; omega)
    | false =>
     cases q4 : (iltB (Int.ofNat 0) (Int.ofNat dn)) with
     | true =>
      exact rNo (r6_fffft q0 q1 q2 q3 q4) (by simp only [SL] at *; unfold RightP; omega)
     | false =>
      cases q5 : (ileB (Int.ofNat 3) sub) with
      | true =>
       exact rNo (r6_ffffft q0 q1 q2 q3 q4 q5) (by simp only [SL] at *; unfold RightP; omega)
      | false =>
       cases q6 : (iltB (Int.ofNat 0) sub) with
       | true =>
        cases q7 : (iltB (Int.ofNat 0) pl) with
        | true =>
         exact rNo (r6_fffffftt q0 q1 q2 q3 q4 q5 q6 q7) (by simp only [SL] at *; unfold RightP; omega)
        | false =>
         cases q8 : (okD p440 dv) with
         | true =>
          exact rSo (b := true) (r6_fffffftft q0 q1 q2 q3 q4 q5 q6 q7 q8 k5 k1 k2 (Nat.beq_refl _) k3) (by clear q8; simp only [SL] at *; unfold RightP; omega) q8
         | false =>
          exact rSo (b := false) (r6_fffffftff q0 q1 q2 q3 q4 q5 q6 q7 q8 k5 k1 k2 (Nat.beq_refl _) k3 (by rw [q8]; rfl)) (by clear q8; simp only [SL] at *; unfold RightP; omega) q8
       | false =>
        cases q7 : (iltB (Int.ofNat 0) pl) with
        | true =>
         exact rNo (r6_ffffffft q0 q1 q2 q3 q4 q5 q6 q7) (by simp only [SL] at *; unfold RightP; omega)
        | false =>
         cases q8 : (okD p440 dv) with
         | true =>
          exact rSo (b := true) (r6_fffffffft q0 q1 q2 q3 q4 q5 q6 q7 q8 k5 k1 k2 (Nat.beq_refl _) k3) (by clear q8; simp only [SL] at *; unfold RightP; omega) q8
         | false =>
          exact rSo (b := false) (r6_fffffffff q0 q1 q2 q3 q4 q5 q6 q7 q8 k5 k1 k2 (Nat.beq_refl _) k3 (by rw [q8]; rfl)) (by clear q8; simp only [SL] at *; unfold RightP; omega) q8
theorem right_7 (s0 : 0 ≤ sub) (p0 : 0 ≤ pl) (wc : wrapA IntKind.i64 ct = ct) (k1 : isD dv = true) (k2 : (dv.length.beq dn) = true) (k3 : (dn.ble 1099511627776) = true) (k4 : AV.plainL lv = true) (k5 : AV.plainL dv = true) : rG (Int.ofNat 7) sub pl fi ct la ln lv da dn dv := by
 cases q0 : (!ieqB ct (Int.ofNat 0)) with
 | true =>
  exact rNo (r7_t q0) (by simp only [SL] at *; unfold RightP; omega)
 | false =>
  cases q1 : (!ieqB fi (Int.ofNat 0)) with
  | true =>
   exact rNo (r7_ft q0 q1) (by simp only [SL] at *; unfold RightP; omega)
  | false =>
   cases q2 : (!false == iltB (Int.ofNat 0) (Int.ofNat ln)) with
   | true =>
    exact rNo (r7_fft q0 q1 q2) (by simp only [SL] at *; unfold RightP; omega)
   | false =>
    cases q3 : (iltB (Int.ofNat 16) (Int.ofNat ln)) with
    | true =>
     exact rNo (r7_ffft q0 q1 q2 q3) (by simp only [SL] at *; unfold RightP; omega)
    | false =>
     cases q4 : (iltB (Int.ofNat 0) (Int.ofNat dn)) with
     | true =>
      exact rNo (r7_fffft q0 q1 q2 q3 q4) (by simp only [SL] at *; unfold RightP; omega)
     | false =>
      cases q5 : (ileB (Int.ofNat 3) sub) with
      | true =>
       exact rNo (r7_ffffft q0 q1 q2 q3 q4 q5) (by simp only [SL] at *; unfold RightP; omega)
      | false =>
       cases q6 : (iltB (Int.ofNat 0) sub) with
       | true =>
        cases q7 : (iltB (Int.ofNat 0) pl) with
        | true =>
         cases q8 : (!ieqB sub (Int.ofNat 0)) with
         | true =>
          exact rNo (r7_ffffffttt q0 q1 q2 q3 q4 q5 q6 q7 q8) (by simp only [SL] at *; unfold RightP; omega)
         | false =>
          cases q9 : (okD p440 dv) with
          | true =>
           exact rSo (b := true) (r7_ffffffttft q0 q1 q2 q3 q4 q5 q6 q7 q8 q9 k5 k1 k2 (Nat.beq_refl _) k3) (by clear q9; simp only [SL] at *; unfold RightP; omega) q9
          | false =>
           exact rSo (b := false) (r7_ffffffttff q0 q1 q2 q3 q4 q5 q6 q7 q8 q9 k5 k1 k2 (Nat.beq_refl _) k3 (by rw [q9]; rfl)) (by clear q9; simp only [SL] at *; unfold RightP; omega) q9
        | false =>
         cases q8 : (okD p440 dv) with
         | true =>
          exact rSo (b := true) (r7_fffffftft q0 q1 q2 q3 q4 q5 q6 q7 q8 k5 k1 k2 (Nat.beq_refl _) k3) (by clear q8; simp only [SL] at *; unfold RightP; omega) q8
         | false =>
          exact rSo (b := false) (r7_fffffftff q0 q1 q2 q3 q4 q5 q6 q7 q8 k5 k1 k2 (Nat.beq_refl _) k3 (by rw [q8]; rfl)) (by clear q8; simp only [SL] at *; unfold RightP; omega) q8
       | false =>
        cases q7 : (iltB (Int.ofNat 0) pl) with
        | true =>
         cases q8 : (!ieqB sub (Int.ofNat 0)) with
         | true =>
          exact rNo (r7_ffffffftt q0 q1 q2 q3 q4 q5 q6 q7 q8) (by simp only [SL] at *; unfold RightP; omega)
         | false =>
          cases q9 : (okD p440 dv) with
          | true =>
           exact rSo (b := true) (r7_ffffffftft q0 q1 q2 q3 q4 q5 q6 q7 q8 q9 k5 k1 k2 (Nat.beq_refl _) k3) (by clear q9; simp only [SL] at *; unfold RightP; omega) q9
          | false =>
           exact rSo (b := false) (r7_ffffffftff q0 q1 q2 q3 q4 q5 q6 q7 q8 q9 k5 k1 k2 (Nat.beq_refl _) k3 (by rw [q9]; rfl)) (by clear q9; simp only [SL] at *; unfold RightP; omega) q9
        | false =>
         cases q8 : (okD p440 dv) with
         | true =>
          exact rSo (b := true) (r7_fffffffft q0 q1 q2 q3 q4 q5 q6 q7 q8 k5 k1 k2 (Nat.beq_refl _) k3) (by clear q8; simp only [SL] at *; unfold RightP; omega) q8
         | false =>
          exact rSo (b := false) (r7_fffffffff q0 q1 q2 q3 q4 q5 q6 q7 q8 k5 k1 k2 (Nat.beq_refl _) k3 (by rw [q8]; rfl)) (by clear q8; simp only [SL] at *; unfold RightP; omega) q8
end
def rightR : RSum := RSum.pl true fun us => match us with
 | [.agg [.int .u8 op, .int .u8 sub, .int .u8 pl, .int .u32 fi, .int .u8 ct, .fsl la ln lv, .fsl da dn dv]] => some ([ileB (Int.ofNat 0) sub, ileB (Int.ofNat 0) pl, ileB (Int.ofNat 0) ct, ileB ct (Int.ofNat 255), isD dv, Nat.beq dv.length dn, Nat.ble dn 1099511627776, AV.plainL lv], .bool (kept (rightB op sub pl fi ct ln dn dv)))
 | _ => none
theorem rightR_ok : RSum.Sound Try.prog tys 95 rightR := by
 refine RSum.soundZ (cxZ cx_goes) all10a (RSum.pl_ok fun us q v hm hc => ?_)
 split at hm
 · rename_i op sub pl fi ct la ln lv da dn dv
   injection hm with hm; injection hm with e1 e2; subst e1; subst e2
   simp only [allTrue_cons] at hc
   obtain ⟨c1, c2, c3, c4, c5, c6, c7, c8, _⟩ := hc
   have c1 := of_decide_eq_true ((ileB_eq _ _).symm.trans c1)
   have c2 := of_decide_eq_true ((ileB_eq _ _).symm.trans c2)
   have c3 := of_decide_eq_true ((ileB_eq _ _).symm.trans c3)
   have c4 := of_decide_eq_true ((ileB_eq _ _).symm.trans c4)
   have wc : wrapA IntKind.i64 ct = ct := by
    obtain ⟨n, rfl⟩ : ∃ n : Nat, ct = (n : Int) := ⟨ct.toNat, by simp only [Int.ofNat_eq_natCast] at c3; omega⟩
    exact wrapA_nat .i64 n (by show n < 9223372036854775808; simp only [Int.ofNat_eq_natCast] at c4; omega)
   have c9 : AV.plainL dv = true := by obtain ⟨l, rfl⟩ := isD_iff.1 c5; exact encD_plainL l
   simp only [Int.ofNat_eq_natCast] at c1 c2
   rw [kept_eq]
   refine ⟨rfl, 60, ?_⟩
   cases h1 : iltB (AV.int IntKind.u8 op).intOf (Int.ofNat 1) with
   | true =>
    obtain ⟨h', h, _⟩ := r8_t (sub := sub) (pl := pl) (fi := fi) (ct := ct) (la := la) (ln := ln) (lv := lv) (da := da) (dn := dn) (dv := dv) op h1
    simp only [AV.intOf, ieqB_eq, iltB_eq, ileB_eq, beq_iff_eq, beq_eq_false_iff_ne, ne_eq, decide_eq_true_eq, decide_eq_false_iff_not, Bool.not_eq_true', Bool.not_eq_false', Bool.not_true, Bool.not_false, Bool.true_beq, Bool.false_beq, Bool.not_not, Int.ofNat_eq_natCast] at h1
    rw [rightB_no (by unfold RightP; omega)]; exact ⟨h', h⟩
   | false =>
   cases h2 : ileB (Int.ofNat 8) (AV.int IntKind.u8 op).intOf with
   | true =>
    obtain ⟨h', h, _⟩ := r8_ft (sub := sub) (pl := pl) (fi := fi) (ct := ct) (la := la) (ln := ln) (lv := lv) (da := da) (dn := dn) (dv := dv) op h1 h2
    simp only [AV.intOf, ieqB_eq, iltB_eq, ileB_eq, beq_iff_eq, beq_eq_false_iff_ne, ne_eq, decide_eq_true_eq, decide_eq_false_iff_not, Bool.not_eq_true', Bool.not_eq_false', Bool.not_true, Bool.not_false, Bool.true_beq, Bool.false_beq, Bool.not_not, Int.ofNat_eq_natCast] at h1 h2
    rw [rightB_no (by unfold RightP; omega)]; exact ⟨h', h⟩
   | false =>
    simp only [AV.intOf, ieqB_eq, iltB_eq, ileB_eq, beq_iff_eq, beq_eq_false_iff_ne, ne_eq, decide_eq_true_eq, decide_eq_false_iff_not, Bool.not_eq_true', Bool.not_eq_false', Bool.not_true, Bool.not_false, Bool.true_beq, Bool.false_beq, Bool.not_not, Int.ofNat_eq_natCast] at h1 h2
    have h3 : op = Int.ofNat 1 ∨ op = Int.ofNat 2 ∨ op = Int.ofNat 3 ∨ op = Int.ofNat 4 ∨ op = Int.ofNat 5 ∨ op = Int.ofNat 6 ∨ op = Int.ofNat 7 := by simp only [Int.ofNat_eq_natCast]; omega
    rcases h3 with rfl | rfl | rfl | rfl | rfl | rfl | rfl
    · exact right_1 (by omega) (by omega) wc c5 c6 c7 c8 c9
    · exact right_2 (by omega) (by omega) wc c5 c6 c7 c8 c9
    · exact right_3 (by omega) (by omega) wc c5 c6 c7 c8 c9
    · exact right_4 (by omega) (by omega) wc c5 c6 c7 c8 c9
    · exact right_5 (by omega) (by omega) wc c5 c6 c7 c8 c9
    · exact right_6 (by omega) (by omega) wc c5 c6 c7 c8 c9
    · exact right_7 (by omega) (by omega) wc c5 c6 c7 c8 c9
 · cases hm
end Go.Proofs.Ytecncappdnhbaaa
end
end

section
noncomputable section
namespace Go.Ab
open Go.RowKit
section
variable {sz : TypeId → Nat} {base : Nat → Prop} {w0 w : World}
theorem relW_fz {m : Nat → Option BI} {fz fz' : Nat → Option (Array Value)} {lo : Nat} {H : Heap} (hw : RelW sz base w0 ⟨m, fz, lo⟩ H w) (h1 : ∀ k arr, fz k = some arr → fz' k = some arr)
    (h2 : ∀ k arr, fz' k = some arr → ∃ e fr, w.heap[k]? = some (.cells arr e fr)) (h3 : ∀ b i k arr, m b = some i → (H.get b).writes = true → fz' k = some arr → k ≠ i.blk) : RelW sz base w0 ⟨m, fz', lo⟩ H w :=
  ⟨hw.below, hw.baseLe, hw.fresh, fun b i e => (hw.blk b i e).mono ⟨fun _ _ e => e, h1⟩, hw.apart, h2, h3, hw.lo⟩
end
def ZSum.OKF (fl : TypeId → Bool) (cx : Cx) (g : FuncId) (s : ZSum) : Prop :=
  ∀ us bs c v bs', s.m us bs = some (c, v, bs') → allTrue c = true → allTrue (zin fl s.rs us bs) = true → ∃ (f : Nat) (h' : Heap) (ks : List Nat) (b o len : Nat) (cp : Option Nat) (e : TypeId) (n : Nat) (cs : List AV), aCall cx f (.fn g) us (mkL bs) = some (.slice (some (b, o)) len cp, h') ∧ nodupB ks = true ∧ (∀ j, j < bs.length → ks[j]? = some j) ∧
    b ∉ ks ∧ h'.get b = .cells true e n cs ∧ o + len * szOf cx e ≤ n ∧ bareL cs = true ∧ v = .fsl false len (rowCut cs o (len * szOf cx e)) ∧ (∀ j ∈ ks, (h'.get j).writes = true) ∧
    bs' = mapL (fun b => (h'.get b).q fl s.rs fun b => idxN b ks) ks ∧ allTrue (flatL (fun b => (h'.get b).c fl s.rs fun b => memB b ks) ks) = true
theorem ZSum.soundF {P : Program} {cx : Cx} {fl : TypeId → Bool} (hcx : CxOK P cx) (hs : SumAll P cx) {g : FuncId} {s : ZSum} (h : s.OKF fl cx g) : ZSum.Sound P cx.ty fl g s := by
  intro base w0 args H H' v μ w xs hrun hw hr r n
  unfold ZSum.run at hrun
  replace hrun := ob_eq hrun; obtain ⟨t, ht, hrun⟩ := hrun
  replace hrun := ob_eq hrun; obtain ⟨⟨c, v', bs'⟩, hm, hrun⟩ := hrun
  cases hc : allTrue (ZSum.conds fl s.rs t (c, v', bs')) with
  | false => rw [hc] at hrun; cases hrun
  | true =>
  rw [hc, cb_true] at hrun
  injection hrun with hrun; injection hrun with e1 e2
  simp only at e1 e2
  unfold ZSum.conds at hc
  simp only [allTrue_append] at hc
  obtain ⟨c2, c3, c4, c5⟩ := hc
  have hw1 : RelW (szOf cx) base w0 μ H w := hw
  have T := ztake_ok hw1 ht c2
  obtain ⟨f, h', ks, b0, o, len, cp, te, nn, cs, hcall, hnd, hk, hbk, hg0, hle, hbare, ev, hwr, eb, hb0⟩ := h _ _ _ _ _ hm c4 c3
  have h1 := ((aCall_sound hcx (hs.sum (protL μ w t.ns) w) (hs.loop (protL μ w t.ns) w) f).fn hcall T.rel (T.val _ hr)).2 r n
  refine h1.mono ?_
  rintro e w' ⟨Z, rfl, _, μ', hg, hz, hw'⟩
  have hnd := nodupB_true hnd
  obtain ⟨i0, ad, kc, hi0, rfl, hlk, had, _⟩ := rel_slice hz
  obtain ⟨hl, arr, te', fr, harr, hcs, hown⟩ := RelW.row (cx := cx) hw' hi0 hg0
  have hi1 : (h'.get b0).writes = true := by rw [hg0]; rfl
  have hl1 : (h'.get b0).live = true := by rw [hg0]; rfl
  rw [mkL_next, T.len] at hg
  have hnew : w.heap.size ≤ i0.blk := by
    refine Nat.le_of_not_lt fun hlt => (hown rfl).1 ⟨hlt, fun b hb i hi e => ?_⟩
    obtain ⟨j, hj⟩ := List.getElem?_of_mem hb
    have hj1 := (List.getElem?_eq_some_iff.1 hj).1
    have ej : μ' j = some i := by
      rw [hg.same j hj1]
      show (t.ns[j]?).bind _ = _
      rw [hj]; exact hi
    have hjk : j ∈ ks := List.mem_of_getElem? (hk j (by rw [T.len]; exact hj1))
    have hne : b0 ≠ j := fun h => hbk (h ▸ hjk)
    exact hw'.apart b0 j i0 i hi0 ej hne hi1 (live_of_writes (hwr j hjk)) e
  let fz' : Nat → Option (Array Value) := fun k => match μ'.fz k with
    | some a => some a
    | none => if k = i0.blk then some arr else none
  have sup : ∀ k a, μ'.fz k = some a → fz' k = some a := fun k a e => by
    show (match μ'.fz k with
    | some a => some a
    | none => if k = i0.blk then some arr else none) = some a
    rw [e]
  have kinds : ∀ k a, fz' k = some a → μ'.fz k = some a ∨ (k = i0.blk ∧ a = arr) := by
    intro k a e
    have e : (match μ'.fz k with
    | some a => some a
    | none => if k = i0.blk then some arr else none) = some a := e
    cases hx : μ'.fz k with
    | some b => rw [hx] at e; exact .inl e
    | none =>
      rw [hx] at e
      simp only at e
      split at e
      · rename_i hkk; injection e with e; exact .inr ⟨hkk, e.symm⟩
      · cases e
  have hz0 : μ'.fz i0.blk = none := by
    cases hx : μ'.fz i0.blk with
    | none => rfl
    | some a => exact absurd rfl (hw'.frozApart b0 i0 _ a hi0 hi1 hx)
  have hm2 : ∀ b i, memB b ks = true → μ' b = some i → (⟨fun j => (ks[j]?).bind fun b => μ' b, μ'.fz, μ'.lo⟩ : Inj) (idxN b ks) = some i := by
    intro b i hb e
    show (ks[idxN b ks]?).bind _ = _
    rw [idxN_get hb]; exact e
  have hp0 : RelW (szOf cx) (protL μ w t.ns) w ⟨fun j => (ks[j]?).bind fun b => μ' b, μ'.fz, μ'.lo⟩ (mkL bs') w' := by
    rw [eb]
    exact relW_sub hw' hnd (by rw [mapL_eq, List.length_map]) (fun j b c hj hcj => by
      rw [mapL_eq, List.getElem?_map, hj] at hcj
      injection hcj with hcj
      subst hcj
      exact Blk.q_to _ (allTrue_flat hb0 b (List.mem_of_getElem? hj))) hw'.below hw'.baseLe (fun _ _ _ _ h => h) hw'.lo
  have hp : RelW (szOf cx) (protL μ w t.ns) w ⟨fun j => (ks[j]?).bind fun b => μ' b, fz', μ'.lo⟩ (mkL bs') w' := by
    refine relW_fz hp0 sup (fun k a e => ?_) fun j i k a ej hwj hk2 => ?_
    · rcases kinds k a e with e | ⟨rfl, rfl⟩
      · exact hw'.froz k a e
      · exact ⟨_, _, harr⟩
    · rcases kinds k a hk2 with e | ⟨rfl, rfl⟩
      · exact hp0.frozApart j i k a ej hwj e
      · obtain ⟨b, hb, ej⟩ := Option.bind_eq_some_iff.1 ej
        have hbm := List.mem_of_getElem? hb
        have hne : b0 ≠ b := fun h => hbk (h ▸ hbm)
        exact hw'.apart b0 b i0 i hi0 ej hne hi1 (live_of_writes (hwr b hbm))
  have hg2 : Grow t.ns.length (μ.take w t.ns) ⟨fun j => (ks[j]?).bind fun b => μ' b, fz', μ'.lo⟩ := by
    refine ⟨fun b hb => ?_, fun k a e => sup k a (hg.fz k a e), hg.lo, fun k a e => ?_⟩
    · show (ks[b]?).bind _ = _
      rw [hk b (by rw [T.len]; exact hb)]
      exact hg.same b hb
    · rcases kinds k a e with e | ⟨rfl, rfl⟩
      · exact hg.fzn k a e
      · exact .inr hnew
  obtain ⟨μ2, r1, r2, r3, r4, r5, r6⟩ := zback_ok (vs' := [v']) hw1 T hp hg2 c5
  refine ⟨_, rfl, ?_, μ2, r2, ?_, ?_⟩
  · rw [← e2]; exact r6
  · rw [← e1]
    refine r3 v' (by simp) _ ?_
    rw [ev]
    have hcut : cellsAt h' (b0, o) (len * szOf cx te) = some (rowCut cs o (len * szOf cx te)) := by
      unfold cellsAt
      rw [hg0]
      simp only
      rw [if_pos hle]
    obtain ⟨ys, hry, hyl, hyc⟩ := cells_read hw' hcut hi0
    have hpx : RelL (⟨fun j => (ks[j]?).bind fun b => μ' b, fz', μ'.lo⟩ : Inj) (rowCut cs o (len * szOf cx te)) ys := bareL_move (bareL_cut hbare _ _) hry
    refine RelV.fsl (arr := arr) (vs := ys) (fun hne => ?_) hpx (fun j y hj => ?_) hlk
    · have hk : kc ≠ 0 := by
        intro hk
        apply hne
        have : len = 0 := by omega
        rw [this]; simp [rowCut]
      rw [had hk]
      refine ⟨rfl, ?_⟩
      show (match μ'.fz i0.blk with
        | some a => some a
        | none => if i0.blk = i0.blk then some arr else none) = some arr
      rw [hz0]; simp
    · have hj' : j < ys.length := (List.getElem?_eq_some_iff.1 hj).1
      have hk : kc ≠ 0 := by
        intro hk
        have : len = 0 := by omega
        rw [hyl, this] at hj'; simp at hj'
      have := hyc j y hj
      rw [had hk]
      simpa [World.cell?, harr] using this
  · rw [← e2]; exact r1
def zk1 (sz : TypeId → Nat) (ks : List Nat) (h : Heap) (v : AV) : Option (List Bool × AV) :=
  match v with
  | .int k n => some ([], .int k n)
  | .bool b => some ([], .bool b)
  | .str s => some ([], .str s)
  | .fsl a b cs => some ([AV.plainL cs], .fsl a b cs)
  | .slice p len c => (match p with
    | none => some ([], .fsl true 0 [])
    | some p => match h.get p.1 with
      | .cells o e n cs => some ([o, !memB p.1 ks, Nat.ble (p.2 + len * sz e) n, AV.plainL cs], .fsl false len (rowCut cs p.2 (len * sz e)))
      | _ => none)
  | _ => none
def zkQ (sz : TypeId → Nat) (ks : List Nat) (h : Heap) : AV → Option (List Bool × AV) := zS (zS (zk1 sz ks h))
theorem memB_mem {b : Nat} {ks : List Nat} : memB b ks = true ↔ b ∈ ks := by
  constructor
  · intro h
    exact List.mem_of_getElem? (idxN_get h)
  · intro h
    induction ks with
    | nil => cases h
    | cons a l ih =>
      show cb (Nat.beq b a) true (memB b l) = true
      cases hb : Nat.beq b a with
      | true => rfl
      | false =>
        rw [cb_false]
        rcases List.mem_cons.1 h with h | h
        · subst h; simp at hb
        · exact ih h
def ZSum.OKG (fl : TypeId → Bool) (cx : Cx) (g : FuncId) (s : ZSum) : Prop :=
  ∀ us bs c v bs', s.m us bs = some (c, v, bs') → allTrue c = true → allTrue (zin fl s.rs us bs) = true → ∃ (f : Nat) (v0 : AV) (h' : Heap) (ks : List Nat) (c2 : List Bool), aCall cx f (.fn g) us (mkL bs) = some (v0, h') ∧ nodupB ks = true ∧ (∀ j, j < bs.length → ks[j]? = some j) ∧
    zkQ (szOf cx) ks h' v0 = some (c2, v) ∧ allTrue c2 = true ∧ (∀ j ∈ ks, (h'.get j).writes = true) ∧
    bs' = mapL (fun b => (h'.get b).q fl s.rs fun b => idxN b ks) ks ∧ allTrue (flatL (fun b => (h'.get b).c fl s.rs fun b => memB b ks) ks) = true
theorem ZSum.soundG {P : Program} {cx : Cx} {fl : TypeId → Bool} (hcx : CxOK P cx) (hs : SumAll P cx) {g : FuncId} {s : ZSum} (h : s.OKG fl cx g) : ZSum.Sound P cx.ty fl g s := by
  classical
  intro base w0 args H H' v μ w xs hrun hw hr r n
  unfold ZSum.run at hrun
  replace hrun := ob_eq hrun; obtain ⟨t, ht, hrun⟩ := hrun
  replace hrun := ob_eq hrun; obtain ⟨⟨c, v', bs'⟩, hm, hrun⟩ := hrun
  cases hc : allTrue (ZSum.conds fl s.rs t (c, v', bs')) with
  | false => rw [hc] at hrun; cases hrun
  | true =>
  rw [hc, cb_true] at hrun
  injection hrun with hrun; injection hrun with e1 e2
  simp only at e1 e2
  unfold ZSum.conds at hc
  simp only [allTrue_append] at hc
  obtain ⟨c2, c3, c4, c5⟩ := hc
  have hw1 : RelW (szOf cx) base w0 μ H w := hw
  have T := ztake_ok hw1 ht c2
  obtain ⟨f, v0, h', ks, cz, hcall, hnd, hk, hzk, hcz, hwr, eb, hb0⟩ := h _ _ _ _ _ hm c4 c3
  have h1 := ((aCall_sound hcx (hs.sum (protL μ w t.ns) w) (hs.loop (protL μ w t.ns) w) f).fn hcall T.rel (T.val _ hr)).2 r n
  refine h1.mono ?_
  rintro e w' ⟨Z, rfl, _, μ', hg, hz, hw'⟩
  have hnd := nodupB_true hnd
  rw [mkL_next, T.len] at hg
  have hnew : ∀ b i, b ∉ ks → μ' b = some i → (∃ te nn cs, h'.get b = .cells true te nn cs) → w.heap.size ≤ i.blk := by
    intro b i hb hi ⟨te, nn, cs, hg0⟩
    obtain ⟨hl, arr, te', fr, harr, hcs, hown⟩ := RelW.row (cx := cx) hw' hi hg0
    refine Nat.le_of_not_lt fun hlt => (hown rfl).1 ⟨hlt, fun b1 hb1 i1 hi1 e => ?_⟩
    obtain ⟨j, hj⟩ := List.getElem?_of_mem hb1
    have hj1 := (List.getElem?_eq_some_iff.1 hj).1
    have ej : μ' j = some i1 := by
      rw [hg.same j hj1]
      show (t.ns[j]?).bind _ = _
      rw [hj]; exact hi1
    have hjk : j ∈ ks := List.mem_of_getElem? (hk j (by rw [T.len]; exact hj1))
    have hne : b ≠ j := fun h => hb (h ▸ hjk)
    exact hw'.apart b j i i1 hi ej hne (by rw [hg0]; rfl) (live_of_writes (hwr j hjk)) e
  let New : Nat → Prop := fun k => ∃ b i, b ∉ ks ∧ μ' b = some i ∧ (∃ te nn cs, h'.get b = .cells true te nn cs) ∧ i.blk = k
  let fz' : Nat → Option (Array Value) := fun k => match μ'.fz k with
    | some a => some a
    | none => if New k then fzAll w' k else none
  have sup : ∀ k a, μ'.fz k = some a → fz' k = some a := fun k a e => by
    show (match μ'.fz k with
    | some a => some a
    | none => if New k then fzAll w' k else none) = some a
    rw [e]
  have kinds : ∀ k a, fz' k = some a → μ'.fz k = some a ∨ (New k ∧ fzAll w' k = some a) := by
    intro k a e
    have e : (match μ'.fz k with
    | some a => some a
    | none => if New k then fzAll w' k else none) = some a := e
    cases hx : μ'.fz k with
    | some b => rw [hx] at e; exact .inl e
    | none =>
      rw [hx] at e
      simp only at e
      split at e
      · rename_i hkk; exact .inr ⟨hkk, e⟩
      · cases e
  have hm2 : ∀ b i, memB b ks = true → μ' b = some i → (⟨fun j => (ks[j]?).bind fun b => μ' b, μ'.fz, μ'.lo⟩ : Inj) (idxN b ks) = some i := by
    intro b i hb e
    show (ks[idxN b ks]?).bind _ = _
    rw [idxN_get hb]; exact e
  have hp0 : RelW (szOf cx) (protL μ w t.ns) w ⟨fun j => (ks[j]?).bind fun b => μ' b, μ'.fz, μ'.lo⟩ (mkL bs') w' := by
    rw [eb]
    exact relW_sub hw' hnd (by rw [mapL_eq, List.length_map]) (fun j b c hj hcj => by
      rw [mapL_eq, List.getElem?_map, hj] at hcj
      injection hcj with hcj
      subst hcj
      exact Blk.q_to _ (allTrue_flat hb0 b (List.mem_of_getElem? hj))) hw'.below hw'.baseLe (fun _ _ _ _ h => h) hw'.lo
  have hp : RelW (szOf cx) (protL μ w t.ns) w ⟨fun j => (ks[j]?).bind fun b => μ' b, fz', μ'.lo⟩ (mkL bs') w' := by
    refine relW_fz hp0 sup (fun k a e => ?_) fun j i k a ej hwj hk2 => ?_
    · rcases kinds k a e with e | ⟨_, e⟩
      · exact hw'.froz k a e
      · unfold fzAll at e
        split at e
        · rename_i arr' te fr hk1
          injection e with e; subst e
          exact ⟨te, fr, hk1⟩
        · cases e
    · rcases kinds k a hk2 with e | ⟨⟨b1, i1, hb1, hi1, ⟨te, nn, cs, hg1⟩, rfl⟩, _⟩
      · exact hp0.frozApart j i k a ej hwj e
      · obtain ⟨b, hb, ej⟩ := Option.bind_eq_some_iff.1 ej
        have hbm := List.mem_of_getElem? hb
        have hne : b1 ≠ b := fun h => hb1 (h ▸ hbm)
        exact hw'.apart b1 b i1 i hi1 ej hne (by rw [hg1]; rfl) (live_of_writes (hwr b hbm))
  have hg2 : Grow t.ns.length (μ.take w t.ns) ⟨fun j => (ks[j]?).bind fun b => μ' b, fz', μ'.lo⟩ := by
    refine ⟨fun b hb => ?_, fun k a e => sup k a (hg.fz k a e), hg.lo, fun k a e => ?_⟩
    · show (ks[b]?).bind _ = _
      rw [hk b (by rw [T.len]; exact hb)]
      exact hg.same b hb
    · rcases kinds k a e with e | ⟨⟨b1, i1, hb1, hi1, hc1, rfl⟩, _⟩
      · exact hg.fzn k a e
      · exact .inr (hnew b1 i1 hb1 hi1 hc1)
  obtain ⟨μ2, r1, r2, r3, r4, r5, r6⟩ := zback_ok (vs' := [v']) hw1 T hp hg2 c5
  let μF : Inj := ⟨fun j => (ks[j]?).bind fun b => μ' b, fz', μ'.lo⟩
  have good : ∀ {v u : AV} {cc : List Bool} {x : Value}, zk1 (szOf cx) ks h' v = some (cc, u) → allTrue cc = true → RelV μ' v x → RelV μF u x := by
    intro v u cc x h hc hr
    cases v <;> simp only [zk1] at h <;> try (cases h; done)
    case int k n => injection h with h; injection h with h1 h3; subst h3; cases hr; exact .int _ _
    case bool b => injection h with h; injection h with h1 h3; subst h3; cases hr; exact .bool _
    case str s => injection h with h; injection h with h1 h3; subst h3; cases hr; exact .str _
    case fsl a b cs =>
      injection h with h; injection h with h1 h3; subst h1; subst h3
      rw [allTrue_cons] at hc
      exact RelV.move (μ' := μF) sup (by simp only [AV.plain]; exact hc.1) hr
    case slice p len cp =>
      cases p with
      | none =>
        injection h with h; injection h with h1 h3; subst h3
        cases hr; exact .fslN
      | some p =>
        simp only at h
        split at h
        · rename_i own te nn cs hg0
          injection h with h; injection h with h1 h3; subst h1; subst h3
          simp only [allTrue_cons] at hc
          obtain ⟨ho, hnk, hle, hpl, _⟩ := hc
          subst ho
          have hnk : p.1 ∉ ks := fun hm => by rw [memB_mem.2 hm] at hnk; cases hnk
          have hle := Nat.le_of_ble_eq_true hle
          obtain ⟨i, ad, k, hi, rfl, hlk, had, _⟩ := rel_slice hr
          obtain ⟨hl, arr, e', fr, harr, hcs, hown⟩ := RelW.row (cx := cx) hw' hi hg0
          have hcut : cellsAt h' p (len * szOf cx te) = some (rowCut cs p.2 (len * szOf cx te)) := by
            unfold cellsAt
            rw [hg0]
            simp only
            rw [if_pos hle]
          obtain ⟨ys, hry, hyl, hyc⟩ := cells_read hw' hcut hi
          have hz0 : μ'.fz i.blk = none := by
            cases hx : μ'.fz i.blk with
            | none => rfl
            | some a => exact absurd rfl (hw'.frozApart p.1 i _ a hi (by rw [hg0]; rfl) hx)
          have hzz : μF.fz i.blk = some arr := by
            show (match μ'.fz i.blk with
              | some a => some a
              | none => if New i.blk then fzAll w' i.blk else none) = some arr
            rw [hz0]
            simp only
            rw [if_pos ⟨p.1, i, hnk, hi, ⟨_, _, _, hg0⟩, rfl⟩]
            unfold fzAll
            rw [harr]
          have hpx : RelL μF (rowCut cs p.2 (len * szOf cx te)) ys := RelL.move (μ' := μF) sup (plainL_cut hpl _ _) hry
          refine RelV.fsl (arr := arr) (vs := ys) (fun hne => ?_) hpx (fun j y hj => ?_) hlk
          · have hk : k ≠ 0 := by
              intro hk
              apply hne
              have : len = 0 := by omega
              rw [this]; simp [rowCut]
            rw [had hk]
            exact ⟨rfl, hzz⟩
          · have hj' : j < ys.length := (List.getElem?_eq_some_iff.1 hj).1
            have hk : k ≠ 0 := by
              intro hk
              have : len = 0 := by omega
              rw [hyl, this] at hj'; simp at hj'
            have := hyc j y hj
            rw [had hk]
            simpa [World.cell?, harr] using this
        · cases h
  have goodL : ∀ (f : AV → Option (List Bool × AV)), (∀ {v u : AV} {cc : List Bool} {x : Value}, f v = some (cc, u) → allTrue cc = true → RelV μ' v x → RelV μF u x) → ∀ {vs us : List AV} {cc : List Bool} {xs : List Value}, zL f vs = some (cc, us) → allTrue cc = true → RelL μ' vs xs → RelL μF us xs := by
    intro f hf vs
    induction vs with
    | nil => intro us cc xs h hc hr; cases hr; injection h with h; injection h with h1 h3; subst h3; exact .nil
    | cons v vs ih =>
      intro us cc xs h hc hr
      cases hr with
      | cons a b =>
        change ((f v).ob fun a => (zL f vs).ob fun b => some (a.1 ++ b.1, a.2 :: b.2)) = some (cc, us) at h
        replace h := ob_eq h; obtain ⟨⟨c1, u⟩, h1, h⟩ := h
        replace h := ob_eq h; obtain ⟨⟨c2, us'⟩, h3, h⟩ := h
        injection h with h; injection h with e1 e2; subst e1; subst e2
        rw [allTrue_append] at hc
        exact .cons (hf h1 hc.1 a) (ih h3 hc.2 b)
  have goodS : ∀ (f : AV → Option (List Bool × AV)), (∀ {v u : AV} {cc : List Bool} {x : Value}, f v = some (cc, u) → allTrue cc = true → RelV μ' v x → RelV μF u x) → ∀ {v u : AV} {cc : List Bool} {x : Value}, zS f v = some (cc, u) → allTrue cc = true → RelV μ' v x → RelV μF u x := by
    intro f hf v u cc x h hc hr
    cases v with
    | agg cs =>
      change ((zL f cs).ob fun r => some (r.1, AV.agg r.2)) = some (cc, u) at h
      replace h := ob_eq h; obtain ⟨⟨c1, us⟩, h1, h⟩ := h
      injection h with h; injection h with e1 e2; subst e1; subst e2
      cases hr with
      | agg a => exact .agg (goodL f hf h1 hc a)
    | tuple cs =>
      change ((zL f cs).ob fun r => some (r.1, AV.tuple r.2)) = some (cc, u) at h
      replace h := ob_eq h; obtain ⟨⟨c1, us⟩, h1, h⟩ := h
      injection h with h; injection h with e1 e2; subst e1; subst e2
      cases hr with
      | tuple a => exact .tuple (goodL f hf h1 hc a)
    | _ => exact hf h hc hr
  have hval : RelV μF v' Z := goodS _ (goodS _ good) hzk hcz hz
  refine ⟨Z, rfl, ?_, μ2, r2, ?_, ?_⟩
  · rw [← e2]; exact r6
  · rw [← e1]
    exact r3 v' (by simp) Z hval
  · rw [← e2]; exact r1
theorem ZSum.soundGZ {P : Program} {ty : TypeId → Option ATy} {fn : FuncId → Option Func} {K : Known} (hcx : CxOK P (mkCxZ ty fn K)) (hs : SumAll P (mkCxZ ty fn K)) {g : FuncId} {s : ZSum} (h : s.OKG (flOf ty) (mkCxZ ty fn K) g) : ZSum.Sound P ty (flOf ty) g s := ZSum.soundG hcx hs h
theorem ZSum.soundFZ {P : Program} {ty : TypeId → Option ATy} {fn : FuncId → Option Func} {K : Known} (hcx : CxOK P (mkCxZ ty fn K)) (hs : SumAll P (mkCxZ ty fn K)) {g : FuncId} {s : ZSum} (h : s.OKF (flOf ty) (mkCxZ ty fn K) g) : ZSum.Sound P ty (flOf ty) g s := ZSum.soundF hcx hs h
theorem ZSum.sound_ex {P : Program} {ty : TypeId → Option ATy} {fl : TypeId → Bool} {g : FuncId} {s : ZSum} (h : ∀ us bs r, s.m us bs = some r → ∃ a : ZSum, a.rs = s.rs ∧ ZSum.Sound P ty fl g a ∧ a.m us bs = some r) : ZSum.Sound P ty fl g s := by
  intro base w0 args H H' v μ w xs hrun
  have hrun0 := hrun
  unfold ZSum.run at hrun
  replace hrun := ob_eq hrun; obtain ⟨t, ht, hrun⟩ := hrun
  replace hrun := ob_eq hrun; obtain ⟨q, hm, hrun⟩ := hrun
  obtain ⟨a, ra, ha, e⟩ := h _ _ _ hm
  refine ha base w0 (args := args) (H := H) (H' := H') (v := v) ?_
  unfold ZSum.run
  rw [ra, ht]
  simp only [ob_some]
  rw [e]
  simp only [ob_some]
  exact hrun
end Go.Ab
end
end

section
noncomputable section
namespace Go.Proofs.Ytecncappdnhbaaa
open Go.Ab.M Go.Ab Go
abbrev T10d : TTab := [(78, putKu32.rt), (49, rputR.rt), (46, (RSum.const (.bool true)).rt), (95, rightR.rt)]
theorem T10d_ok : TOK Try.prog tys T10d := ⟨RSum.rt_sound putKu32_ok, RSum.rt_sound rputR_ok, RSum.rt_sound lives24_ok, RSum.rt_sound rightR_ok, trivial⟩
def K10d : Known := { t := T10d }
theorem K10d_ok : KOK Try.prog tys K10d := ⟨T10d_ok, trivial, trivial, trivial, trivial⟩
abbrev C10d := mkCxZ tys fns K10d
theorem all10d : SumAll Try.prog C10d := sums_allZ K10d_ok
end Go.Proofs.Ytecncappdnhbaaa
end
end

section
noncomputable section
namespace Go.Ab
namespace M
def encU (k : IntKind) (l : List UInt32) : List AV := l.map fun x => .int k (x.toNat : Int)
def AV.isU (k : IntKind) (v : AV) : Bool := AV.isInt k v && decide (0 ≤ v.intOf ∧ v.intOf < 4294967296)
def isU (k : IntKind) (cs : List AV) : Bool := cs.all (AV.isU k)
def numsU (cs : List AV) : List UInt32 := cs.map fun v => UInt32.ofNat v.intOf.toNat
def bodyB (op : Int) : List UInt32 → List (List UInt8) → List UInt8
  | [], _ => []
  | a :: zs, ds => putB 4 a.toNat ++ ((if op = 2 then ds.headD [] else []) ++ bodyB op zs ds.tail)
abbrev cA (l : List AV) (i : Nat) : AV := (listAt (List.drop ((Int.ofNat i).toNat * 1) l) 0).getD AV.undef
def sizeB (op : Int) (n : Nat) : Nat := if op = 2 then 444 * n else 4 * n
end M
open M
theorem isU_iff {k : IntKind} {cs : List AV} : isU k cs = true ↔ ∃ l, cs = encU k l := by
  constructor
  · intro h
    refine ⟨numsU cs, ?_⟩
    unfold numsU encU
    rw [List.map_map]
    conv => lhs; rw [← List.map_id cs]
    refine List.map_congr_left fun v hv => ?_
    have := List.all_eq_true.1 h v hv
    unfold AV.isU at this
    rw [Bool.and_eq_true, decide_eq_true_eq] at this
    obtain ⟨h0, h1, h2⟩ := this
    cases v <;> simp [AV.isInt] at h0
    rename_i k' n
    subst h0
    change 0 ≤ n at h1
    change n < 4294967296 at h2
    show AV.int k' n = .int k' ((UInt32.ofNat n.toNat).toNat : Int)
    congr 1
    rw [UInt32.toNat_ofNat']
    omega
  · rintro ⟨l, rfl⟩
    unfold isU encU
    rw [List.all_map]
    refine List.all_eq_true.2 fun x _ => ?_
    have := x.toNat_lt
    simp [AV.isU, AV.isInt, AV.intOf]
    omega
theorem numsU_encU (k : IntKind) (l : List UInt32) : numsU (encU k l) = l := by
  unfold numsU encU
  rw [List.map_map]
  conv => rhs; rw [← List.map_id l]
  refine List.map_congr_left fun x _ => ?_
  show UInt32.ofNat ((x.toNat : Int)).toNat = x
  rw [Int.toNat_natCast, UInt32.ofNat_toNat]
theorem encU_length (k : IntKind) (l : List UInt32) : (encU k l).length = l.length := by unfold encU; rw [List.length_map]
theorem encU_plainL (k : IntKind) (l : List UInt32) : AV.plainL (encU k l) = true := by
  induction l with
  | nil => rfl
  | cons x l ih => exact ih
theorem encU_at (k : IntKind) (l : List UInt32) (i : Nat) (n : UInt32) (h : l[i]? = some n) : (listAt (List.drop ((Int.ofNat i).toNat * 1) (encU k l)) 0).getD AV.undef = .int k (n.toNat : Int) := by
  have e : (Int.ofNat i).toNat * 1 = i := Nat.mul_one i
  rw [e, listAt_eq, List.getElem?_drop]
  unfold encU
  rw [List.getElem?_map, Nat.add_zero, h]; rfl
theorem rowCut_all (L : List UInt8) (n : Nat) (h : L.length = n) : rowCut (ofBytes L) 0 n = ofBytes L := by
  rw [rowCut_ofBytes, List.drop_zero, List.take_of_length_le (by omega)]
theorem encU_snoc (k : IntKind) (l : List UInt32) (x : UInt32) : encU k l ++ [AV.int k (x.toNat : Int)] = encU k (l ++ [x]) := by unfold encU; rw [List.map_append]; rfl
theorem encS_snoc (l : List (List UInt8)) (x : List UInt8) : encS l ++ [AV.str x] = encS (l ++ [x]) := by unfold encS; rw [List.map_append]; rfl
theorem encD_snoc (l : List (Bool × List UInt8)) (x : Bool × List UInt8) : encD l ++ [rowD x] = encD (l ++ [x]) := by unfold encD; rw [List.map_append]; rfl
theorem u64_u32 (x : UInt32) : wrapA .u64 (x.toNat : Int) = x.toNat := wrapA_nat .u64 x.toNat (by have := x.toNat_lt; show x.toNat < 18446744073709551616; omega)
theorem u32_ge (x : UInt32) : ileB (Int.ofNat 0) (x.toNat : Int) = true := by rw [ileB_eq]; exact decide_eq_true (Int.natCast_nonneg _)
theorem u32_lt (x : UInt32) : iltB (x.toNat : Int) (Int.ofNat 4294967296) = true := by rw [iltB_eq]; exact decide_eq_true (by have := x.toNat_lt; show (x.toNat : Int) < 4294967296; omega)
theorem u32_lt' (x : UInt32) : iltB (x.toNat : Int) (Int.ofNat 18446744073709551616) = true := by rw [iltB_eq]; exact decide_eq_true (by have := x.toNat_lt; show (x.toNat : Int) < 18446744073709551616; omega)
theorem bodyB_snoc (op : Int) (x : UInt32) : ∀ (zs : List UInt32) (ds : List (List UInt8)), bodyB op (zs ++ [x]) ds = bodyB op zs ds ++ (putB 4 x.toNat ++ (if op = 2 then (ds[zs.length]?).getD [] else []))
  | [], ds => by
    show putB 4 x.toNat ++ ((if op = 2 then ds.headD [] else []) ++ bodyB op [] ds.tail) = [] ++ _
    cases ds <;> simp [bodyB]
  | a :: zs, ds => by
    show putB 4 a.toNat ++ ((if op = 2 then ds.headD [] else []) ++ bodyB op (zs ++ [x]) ds.tail) = (putB 4 a.toNat ++ ((if op = 2 then ds.headD [] else []) ++ bodyB op zs ds.tail)) ++ _
    rw [bodyB_snoc op x zs ds.tail]
    have e : ds.tail[zs.length]? = ds[(a :: zs).length]? := by cases ds <;> simp
    rw [e]
    simp only [List.append_assoc]
theorem bodyB_len (op : Int) : ∀ (zs : List UInt32) (ds : List (List UInt8)), (op = 2 → zs.length ≤ ds.length) → (op = 2 → ∀ i d, i < zs.length → ds[i]? = some d → d.length = 440) → (bodyB op zs ds).length = sizeB op zs.length
  | [], ds, _, _ => by unfold sizeB; split <;> rfl
  | a :: zs, ds, h1, h2 => by
    show (putB 4 a.toNat ++ ((if op = 2 then ds.headD [] else []) ++ bodyB op zs ds.tail)).length = _
    have ih := bodyB_len op zs ds.tail (fun h => by have := h1 h; simp at this ⊢; omega) (fun h i d hi hd => h2 h (i + 1) d (by simp; omega) (by cases ds with
      | nil => simp at hd
      | cons b l => exact hd))
    rw [List.length_append, List.length_append, ih, putB_length]
    unfold sizeB
    by_cases h : op = 2
    · simp only [if_pos h]
      have := h1 h
      cases ds with
      | nil => simp at this
      | cons b l =>
        have := h2 h 0 b (by simp) rfl
        show 4 + (b.length + _) = _
        rw [this, List.length_cons]; omega
    · simp only [if_neg h]
      show 4 + (0 + _) = _
      rw [List.length_cons]; omega
end Go.Ab
end
end

section
noncomputable section
namespace Go.Ab.M
def dataOK (op : Int) (lm dn : Nat) (dv : List AV) : Bool := decide (op = 2 → lm = dn ∧ okD p440 dv = true)
def datB (dv : List AV) : List (List UInt8) := (rowsD dv).map Prod.snd
end Go.Ab.M
namespace Go.Proofs.Ytecncappdnhbaaa
open Go.Ab.M Go.Ab Go
theorem wA_3 (op sub pl fi ct : Int) (la : Bool) (ln : Nat) (lv : List AV) (da : Bool) (dn : Nat) (dv : List AV) (n : Nat) (n' : Nat) (cs : List AV) (lb : Bool) (lm : Nat) (lw : List AV) (m : Nat) (i : Nat) (h0 : (iltB (Int.ofNat i) (Int.ofNat m)) = true) (h1 : ((Int.ofNat i).toNat.succ.ble lm) = true) (h2 : (lw.length.beq (lm.mul 1)) = true) (h3 : (Nat.ble 1 (List.drop ((Int.ofNat i).toNat * 1) lw).length) = true) (h4 : (AV.isInt IntKind.u32 (cA lw i)) = true) (h5 : ((0 + n * 1).ble n') = true) (h6 : (AV.plainL cs) = true) (h7 : ((rowCut cs 0 (n * 1)).length.beq n) = true) (h8 : (u8L (rowCut cs 0 (n * 1))) = true) (h9 : (n.ble 1000000000000) = true) (h10 : (ileB (Int.ofNat 0) (cA lw i).intOf) = true) (h11 : (iltB (cA lw i).intOf (Int.ofNat 4294967296)) = true) (h12 : (ieqB (AV.int IntKind.u8 op).intOf (Int.ofNat 2)) = false) (h13 : (AV.plainL lw) = true) (h14 : (AV.plainL lv) = true) (h15 : (AV.plainL dv) = true) (h16 : (AV.plainL (kept (ofBytes (bytesL (rowCut cs 0 (n * 1)) ++ [UInt8.ofNat ((cA lw i).intOf.toNat / 16777216), UInt8.ofNat ((cA lw i).intOf.toNat / 65536), UInt8.ofNat ((cA lw i).intOf.toNat / 256), UInt8.ofNat ((cA lw i).intOf.toNat / 1)])))) = true) :
 CodeOK Try.prog (tyCx tys) 69 2 (roundOf (blockOf Try.f57 1)) { fr := frameOf 69 ([1, 4, 36, 37, 38].zip [.ptr (some (0, 0)), .slice (some (1, 0)) n none, .fsl lb lm lw, .int .i64 (Int.ofNat m), .int .i64 (Int.ofNat i)]), ds := upTo 0, H := mkL [.cells true 103 7 [.int .u8 op, .int .u8 sub, .int .u8 pl, .int .u32 fi, .int .u8 ct, .fsl la ln lv, .fsl da dn dv], .cells true 5 n' cs] } (AX.normal) ⟨frameOf 69 ([1, 4, 36, 37, 38].zip [.ptr (some (0, 0)), .slice (some (2, 0)) (n + 4) none, .fsl lb lm lw, .int .i64 (Int.ofNat m), .int .i64 (wrapA IntKind.i64 ((Int.ofNat i).add (Int.ofNat 1)))]), upTo 0, mkL [.cells true 103 7 [.int .u8 op, .int .u8 sub, .int .u8 pl, .int .u32 fi, .int .u8 ct, .fsl la ln lv, .fsl da dn dv], .cells true 5 n' cs, .cells true 5 (n + 4) (kept (ofBytes (bytesL (rowCut cs 0 (n * 1)) ++ [UInt8.ofNat ((cA lw i).intOf.toNat / 16777216), UInt8.ofNat ((cA lw i).intOf.toNat / 65536), UInt8.ofNat ((cA lw i).intOf.toNat / 256), UInt8.ofNat ((cA lw i).intOf.toNat / 1)])))]⟩ :=
 zrows_run (g := 30) (k := 57) (f := 30) (sl := [1, 4, 36, 37, 38]) (ks := [0, 1, 2]) (rs := []) (ds := []) (cxZ cx_goes) all10d (q := qNs [0,3,0,0,0,0,0,0,0,0,0,0,0,5,1]) (c := (cnT :: cnT :: cnT :: cnT :: cnT :: cnT :: cnT :: cnT :: cnT :: cnT :: cnT :: cnT :: cnF :: [])) (cq := [true, true, AV.plainL lw, true, AV.plainL lv, AV.plainL dv, true, AV.plainL cs, true, AV.plainL (kept (ofBytes (bytesL (rowCut cs 0 (n * 1)) ++ [UInt8.ofNat ((cA lw i).intOf.toNat / 16777216), UInt8.ofNat ((cA lw i).intOf.toNat / 65536), UInt8.ofNat ((cA lw i).intOf.toNat / 256), UInt8.ofNat ((cA lw i).intOf.toNat / 1)])))]) (by kernel_rfl) ⟨h0, h1, h2, h3, h4, h5, h6, h7, h8, h9, h10, h11, h12, trivial⟩ (holdsB ⟨rfl, rfl, h13, rfl, h14, h15, rfl, h6, rfl, h16, trivial⟩) (by kernel_rfl) (by kernel_rfl) (by kernel_rfl) (by kernel_rfl) (by kernel_rfl)
theorem wA_2 (op sub pl fi ct : Int) (la : Bool) (ln : Nat) (lv : List AV) (da : Bool) (dn : Nat) (dv : List AV) (n : Nat) (n' : Nat) (cs : List AV) (lb : Bool) (lm : Nat) (lw : List AV) (m : Nat) (i : Nat) (h0 : (iltB (Int.ofNat i) (Int.ofNat m)) = true) (h1 : ((Int.ofNat i).toNat.succ.ble lm) = true) (h2 : (lw.length.beq (lm.mul 1)) = true) (h3 : (Nat.ble 1 (List.drop ((Int.ofNat i).toNat * 1) lw).length) = true) (h4 : (AV.isInt IntKind.u32 (cA lw i)) = true) (h5 : ((0 + n * 1).ble n') = true) (h6 : (AV.plainL cs) = true) (h7 : ((rowCut cs 0 (n * 1)).length.beq n) = true) (h8 : (u8L (rowCut cs 0 (n * 1))) = true) (h9 : (n.ble 1000000000000) = true) (h10 : (ileB (Int.ofNat 0) (cA lw i).intOf) = true) (h11 : (iltB (cA lw i).intOf (Int.ofNat 4294967296)) = true) (h12 : (ieqB (AV.int IntKind.u8 op).intOf (Int.ofNat 2)) = true) (h13 : ((Int.ofNat i).toNat.succ.ble dn) = true) (h14 : (dv.length.beq (dn.mul 1)) = true) (h15 : (Nat.ble 1 (List.drop ((Int.ofNat i).toNat * 1) dv).length) = true) (h16 : ((cA dv i).isFsl) = true) (h17 : ((cA dv i).fslCells.length.beq ((cA dv i).fslLen.mul 1)) = true) (h18 : ((cA dv i).fslLen.beq 0) = false) (h19 : (appRoom 1 (n + 4) (cA dv i).fslLen) = true) (h20 : ((n + 4).beq ((n + 4) * 1)) = true) (h21 : ((cA dv i).fslCells.all AV.isCell) = true) (h22 : (AV.plainL lw) = true) (h23 : (AV.plainL lv) = true) (h24 : (AV.plainL dv) = true) (h25 : (AV.plainL (kept (ofBytes (bytesL (rowCut cs 0 (n * 1)) ++ [UInt8.ofNat ((cA lw i).intOf.toNat / 16777216), UInt8.ofNat ((cA lw i).intOf.toNat / 65536), UInt8.ofNat ((cA lw i).intOf.toNat / 256), UInt8.ofNat ((cA lw i).intOf.toNat / 1)])) ++ (cA dv i).fslCells)) = true) :
 CodeOK Try.prog (tyCx tys) 69 2 (roundOf (blockOf Try.f57 1)) { fr := frameOf 69 ([1, 4, 36, 37, 38].zip [.ptr (some (0, 0)), .slice (some (1, 0)) n none, .fsl lb lm lw, .int .i64 (Int.ofNat m), .int .i64 (Int.ofNat i)]), ds := upTo 0, H := mkL [.cells true 103 7 [.int .u8 op, .int .u8 sub, .int .u8 pl, .int .u32 fi, .int .u8 ct, .fsl la ln lv, .fsl da dn dv], .cells true 5 n' cs] } (AX.normal) ⟨frameOf 69 ([1, 4, 36, 37, 38].zip [.ptr (some (0, 0)), .slice (some (2, 0)) (n + 4 + (cA dv i).fslLen) none, .fsl lb lm lw, .int .i64 (Int.ofNat m), .int .i64 (wrapA IntKind.i64 ((Int.ofNat i).add (Int.ofNat 1)))]), upTo 0, mkL [.cells true 103 7 [.int .u8 op, .int .u8 sub, .int .u8 pl, .int .u32 fi, .int .u8 ct, .fsl la ln lv, .fsl da dn dv], .cells true 5 n' cs, .cells true 5 (kept (ofBytes (bytesL (rowCut cs 0 (n * 1)) ++ [UInt8.ofNat ((cA lw i).intOf.toNat / 16777216), UInt8.ofNat ((cA lw i).intOf.toNat / 65536), UInt8.ofNat ((cA lw i).intOf.toNat / 256), UInt8.ofNat ((cA lw i).intOf.toNat / 1)])) ++ (cA dv i).fslCells).length (kept (ofBytes (bytesL (rowCut cs 0 (n * 1)) ++ [UInt8.ofNat ((cA lw i).intOf.toNat / 16777216), UInt8.ofNat ((cA lw i).intOf.toNat / 65536), UInt8.ofNat ((cA lw i).intOf.toNat / 256), UInt8.ofNat ((cA lw i).intOf.toNat / 1)])) ++ (cA dv i).fslCells)]⟩ :=
 zrows_run (g := 30) (k := 57) (f := 30) (sl := [1, 4, 36, 37, 38]) (ks := [0, 1, 3]) (rs := []) (ds := []) (cxZ cx_goes) all10d (q := qNs [0,3,0,0,0,0,0,0,0,0,0,0,0,5,0,6,0,0,0,0,0,1,0,0,0]) (c := (cnT :: cnT :: cnT :: cnT :: cnT :: cnT :: cnT :: cnT :: cnT :: cnT :: cnT :: cnT :: cnT :: cnT :: cnT :: cnT :: cnT :: cnT :: cnF :: cnT :: cnT :: cnT :: [])) (cq := [true, true, AV.plainL lw, true, AV.plainL lv, AV.plainL dv, true, AV.plainL cs, true, AV.plainL (kept (ofBytes (bytesL (rowCut cs 0 (n * 1)) ++ [UInt8.ofNat ((cA lw i).intOf.toNat / 16777216), UInt8.ofNat ((cA lw i).intOf.toNat / 65536), UInt8.ofNat ((cA lw i).intOf.toNat / 256), UInt8.ofNat ((cA lw i).intOf.toNat / 1)])) ++ (cA dv i).fslCells)]) (by kernel_rfl) ⟨h0, h1, h2, h3, h4, h5, h6, h7, h8, h9, h10, h11, h12, h13, h14, h15, h16, h17, h18, h19, h20, h21, trivial⟩ (holdsB ⟨rfl, rfl, h22, rfl, h23, h24, rfl, h6, rfl, h25, trivial⟩) (by kernel_rfl) (by kernel_rfl) (by kernel_rfl) (by kernel_rfl) (by kernel_rfl)
theorem wB_e (op sub pl fi ct : Int) (la : Bool) (ln : Nat) (lv : List AV) (da : Bool) (dn : Nat) (dv : List AV) (q' : Nat) (qs : List AV) (n : Nat) (n' : Nat) (cs : List AV) (lb : Bool) (lm : Nat) (lw : List AV) (m : Nat) (i : Nat) (h0 : (iltB (Int.ofNat i) (Int.ofNat m)) = false) (h1 : (AV.plainL lw) = true) (h2 : (AV.plainL lv) = true) (h3 : (AV.plainL dv) = true) (h4 : (AV.plainL qs) = true) (h5 : (AV.plainL cs) = true) :
 CodeOK Try.prog (tyCx tys) 69 2 (roundOf (blockOf Try.f57 1)) { fr := frameOf 69 ([1, 4, 36, 37, 38].zip [.ptr (some (0, 0)), .slice (some (2, 0)) n none, .fsl lb lm lw, .int .i64 (Int.ofNat m), .int .i64 (Int.ofNat i)]), ds := upTo 0, H := mkL [.cells true 103 7 [.int .u8 op, .int .u8 sub, .int .u8 pl, .int .u32 fi, .int .u8 ct, .fsl la ln lv, .fsl da dn dv], .cells true 5 q' qs, .cells true 5 n' cs] } (AX.exit 1) ⟨frameOf 69 ([1, 4, 36, 37, 38].zip [.ptr (some (0, 0)), .slice (some (2, 0)) n none, .fsl lb lm lw, .int .i64 (Int.ofNat m), .int .i64 (Int.ofNat i)]), upTo 0, mkL [.cells true 103 7 [.int .u8 op, .int .u8 sub, .int .u8 pl, .int .u32 fi, .int .u8 ct, .fsl la ln lv, .fsl da dn dv], .cells true 5 q' qs, .cells true 5 n' cs]⟩ :=
 zrows_run (g := 30) (k := 57) (f := 30) (sl := [1, 4, 36, 37, 38]) (ks := [0, 1, 2]) (rs := []) (ds := []) (cxZ cx_goes) all10d (q := qNs [1]) (c := (cnF :: [])) (cq := [true, true, AV.plainL lw, true, AV.plainL lv, AV.plainL dv, true, AV.plainL qs, true, AV.plainL cs]) (by kernel_rfl) ⟨h0, trivial⟩ (holdsB ⟨rfl, rfl, h1, rfl, h2, h3, rfl, h4, rfl, h5, trivial⟩) (by kernel_rfl) (by kernel_rfl) (by kernel_rfl) (by kernel_rfl) (by kernel_rfl)
theorem wB_3 (op sub pl fi ct : Int) (la : Bool) (ln : Nat) (lv : List AV) (da : Bool) (dn : Nat) (dv : List AV) (q' : Nat) (qs : List AV) (n : Nat) (n' : Nat) (cs : List AV) (lb : Bool) (lm : Nat) (lw : List AV) (m : Nat) (i : Nat) (h0 : (iltB (Int.ofNat i) (Int.ofNat m)) = true) (h1 : ((Int.ofNat i).toNat.succ.ble lm) = true) (h2 : (lw.length.beq (lm.mul 1)) = true) (h3 : (Nat.ble 1 (List.drop ((Int.ofNat i).toNat * 1) lw).length) = true) (h4 : (AV.isInt IntKind.u32 (cA lw i)) = true) (h5 : ((0 + n * 1).ble n') = true) (h6 : (AV.plainL cs) = true) (h7 : ((rowCut cs 0 (n * 1)).length.beq n) = true) (h8 : (u8L (rowCut cs 0 (n * 1))) = true) (h9 : (n.ble 1000000000000) = true) (h10 : (ileB (Int.ofNat 0) (cA lw i).intOf) = true) (h11 : (iltB (cA lw i).intOf (Int.ofNat 4294967296)) = true) (h12 : (ieqB (AV.int IntKind.u8 op).intOf (Int.ofNat 2)) = false) (h13 : (AV.plainL lw) = true) (h14 : (AV.plainL lv) = true) (h15 : (AV.plainL dv) = true) (h16 : (AV.plainL qs) = true) (h17 : (AV.plainL (kept (ofBytes (bytesL (rowCut cs 0 (n * 1)) ++ [UInt8.ofNat ((cA lw i).intOf.toNat / 16777216), UInt8.ofNat ((cA lw i).intOf.toNat / 65536), UInt8.ofNat ((cA lw i).intOf.toNat / 256), UInt8.ofNat ((cA lw i).intOf.toNat / 1)])))) = true) :
 CodeOK Try.prog (tyCx tys) 69 2 (roundOf (blockOf Try.f57 1)) { fr := frameOf 69 ([1, 4, 36, 37, 38].zip [.ptr (some (0, 0)), .slice (some (2, 0)) n none, .fsl lb lm lw, .int .i64 (Int.ofNat m), .int .i64 (Int.ofNat i)]), ds := upTo 0, H := mkL [.cells true 103 7 [.int .u8 op, .int .u8 sub, .int .u8 pl, .int .u32 fi, .int .u8 ct, .fsl la ln lv, .fsl da dn dv], .cells true 5 q' qs, .cells true 5 n' cs] } (AX.normal) ⟨frameOf 69 ([1, 4, 36, 37, 38].zip [.ptr (some (0, 0)), .slice (some (2, 0)) (n + 4) none, .fsl lb lm lw, .int .i64 (Int.ofNat m), .int .i64 (wrapA IntKind.i64 ((Int.ofNat i).add (Int.ofNat 1)))]), upTo 0, mkL [.cells true 103 7 [.int .u8 op, .int .u8 sub, .int .u8 pl, .int .u32 fi, .int .u8 ct, .fsl la ln lv, .fsl da dn dv], .cells true 5 q' qs, .cells true 5 (n + 4) (kept (ofBytes (bytesL (rowCut cs 0 (n * 1)) ++ [UInt8.ofNat ((cA lw i).intOf.toNat / 16777216), UInt8.ofNat ((cA lw i).intOf.toNat / 65536), UInt8.ofNat ((cA lw i).intOf.toNat / 256), UInt8.ofNat ((cA lw i).intOf.toNat / 1)])))]⟩ :=
 zrows_run (g := 30) (k := 57) (f := 30) (sl := [1, 4, 36, 37, 38]) (ks := [0, 1, 3]) (rs := []) (ds := []) (cxZ cx_goes) all10d (q := qNs [0,3,0,0,0,0,0,0,0,0,0,0,0,5,1]) (c := (cnT :: cnT :: cnT :: cnT :: cnT :: cnT :: cnT :: cnT :: cnT :: cnT :: cnT :: cnT :: cnF :: [])) (cq := [true, true, AV.plainL lw, true, AV.plainL lv, AV.plainL dv, true, AV.plainL qs, true, AV.plainL (kept (ofBytes (bytesL (rowCut cs 0 (n * 1)) ++ [UInt8.ofNat ((cA lw i).intOf.toNat / 16777216), UInt8.ofNat ((cA lw i).intOf.toNat / 65536), UInt8.ofNat ((cA lw i).intOf.toNat / 256), UInt8.ofNat ((cA lw i).intOf.toNat / 1)])))]) (by kernel_rfl) ⟨h0, h1, h2, h3, h4, h5, h6, h7, h8, h9, h10, h11, h12, trivial⟩ (holdsB ⟨rfl, rfl, h13, rfl, h14, h15, rfl, h16, rfl, h17, trivial⟩) (by kernel_rfl) (by kernel_rfl) (by kernel_rfl) (by kernel_rfl) (by kernel_rfl)
theorem wB_2 (op sub pl fi ct : Int) (la : Bool) (ln : Nat) (lv : List AV) (da : Bool) (dn : Nat) (dv : List AV) (q' : Nat) (qs : List AV) (n : Nat) (n' : Nat) (cs : List AV) (lb : Bool) (lm : Nat) (lw : List AV) (m : Nat) (i : Nat) (h0 : (iltB (Int.ofNat i) (Int.ofNat m)) = true) (h1 : ((Int.ofNat i).toNat.succ.ble lm) = true) (h2 : (lw.length.beq (lm.mul 1)) = true) (h3 : (Nat.ble 1 (List.drop ((Int.ofNat i).toNat * 1) lw).length) = true) (h4 : (AV.isInt IntKind.u32 (cA lw i)) = true) (h5 : ((0 + n * 1).ble n') = true) (h6 : (AV.plainL cs) = true) (h7 : ((rowCut cs 0 (n * 1)).length.beq n) = true) (h8 : (u8L (rowCut cs 0 (n * 1))) = true) (h9 : (n.ble 1000000000000) = true) (h10 : (ileB (Int.ofNat 0) (cA lw i).intOf) = true) (h11 : (iltB (cA lw i).intOf (Int.ofNat 4294967296)) = true) (h12 : (ieqB (AV.int IntKind.u8 op).intOf (Int.ofNat 2)) = true) (h13 : ((Int.ofNat i).toNat.succ.ble dn) = true) (h14 : (dv.length.beq (dn.mul 1)) = true) (h15 : (Nat.ble 1 (List.drop ((Int.ofNat i).toNat * 1) dv).length) = true) (h16 : ((cA dv i).isFsl) = true) (h17 : ((cA dv i).fslCells.length.beq ((cA dv i).fslLen.mul 1)) = true) (h18 : ((cA dv i).fslLen.beq 0) = false) (h19 : (appRoom 1 (n + 4) (cA dv i).fslLen) = true) (h20 : ((n + 4).beq ((n + 4) * 1)) = true) (h21 : ((cA dv i).fslCells.all AV.isCell) = true) (h22 : (AV.plainL lw) = true) (h23 : (AV.plainL lv) = true) (h24 : (AV.plainL dv) = true) (h25 : (AV.plainL qs) = true) (h26 : (AV.plainL (kept (ofBytes (bytesL (rowCut cs 0 (n * 1)) ++ [UInt8.ofNat ((cA lw i).intOf.toNat / 16777216), UInt8.ofNat ((cA lw i).intOf.toNat / 65536), UInt8.ofNat ((cA lw i).intOf.toNat / 256), UInt8.ofNat ((cA lw i).intOf.toNat / 1)])) ++ (cA dv i).fslCells)) = true) :
 CodeOK Try.prog (tyCx tys) 69 2 (roundOf (blockOf Try.f57 1)) { fr := frameOf 69 ([1, 4, 36, 37, 38].zip [.ptr (some (0, 0)), .slice (some (2, 0)) n none, .fsl lb lm lw, .int .i64 (Int.ofNat m), .int .i64 (Int.ofNat i)]), ds := upTo 0, H := mkL [.cells true 103 7 [.int .u8 op, .int .u8 sub, .int .u8 pl, .int .u32 fi, .int .u8 ct, .fsl la ln lv, .fsl da dn dv], .cells true 5 q' qs, .cells true 5 n' cs] } (AX.normal) ⟨frameOf 69 ([1, 4, 36, 37, 38].zip [.ptr (some (0, 0)), .slice (some (2, 0)) (n + 4 + (cA dv i).fslLen) none, .fsl lb lm lw, .int .i64 (Int.ofNat m), .int .i64 (wrapA IntKind.i64 ((Int.ofNat i).add (Int.ofNat 1)))]), upTo 0, mkL [.cells true 103 7 [.int .u8 op, .int .u8 sub, .int .u8 pl, .int .u32 fi, .int .u8 ct, .fsl la ln lv, .fsl da dn dv], .cells true 5 q' qs, .cells true 5 (kept (ofBytes (bytesL (rowCut cs 0 (n * 1)) ++ [UInt8.ofNat ((cA lw i).intOf.toNat / 16777216), UInt8.ofNat ((cA lw i).intOf.toNat / 65536), UInt8.ofNat ((cA lw i).intOf.toNat / 256), UInt8.ofNat ((cA lw i).intOf.toNat / 1)])) ++ (cA dv i).fslCells).length (kept (ofBytes (bytesL (rowCut cs 0 (n * 1)) ++ [UInt8.ofNat ((cA lw i).intOf.toNat / 16777216), UInt8.ofNat ((cA lw i).intOf.toNat / 65536), UInt8.ofNat ((cA lw i).intOf.toNat / 256), UInt8.ofNat ((cA lw i).intOf.toNat / 1)])) ++ (cA dv i).fslCells)]⟩ :=
 zrows_run (g := 30) (k := 57) (f := 30) (sl := [1, 4, 36, 37, 38]) (ks := [0, 1, 4]) (rs := []) (ds := []) (cxZ cx_goes) all10d (q := qNs [0,3,0,0,0,0,0,0,0,0,0,0,0,5,0,6,0,0,0,0,0,1,0,0,0]) (c := (cnT :: cnT :: cnT :: cnT :: cnT :: cnT :: cnT :: cnT :: cnT :: cnT :: cnT :: cnT :: cnT :: cnT :: cnT :: cnT :: cnT :: cnT :: cnF :: cnT :: cnT :: cnT :: [])) (cq := [true, true, AV.plainL lw, true, AV.plainL lv, AV.plainL dv, true, AV.plainL qs, true, AV.plainL (kept (ofBytes (bytesL (rowCut cs 0 (n * 1)) ++ [UInt8.ofNat ((cA lw i).intOf.toNat / 16777216), UInt8.ofNat ((cA lw i).intOf.toNat / 65536), UInt8.ofNat ((cA lw i).intOf.toNat / 256), UInt8.ofNat ((cA lw i).intOf.toNat / 1)])) ++ (cA dv i).fslCells)]) (by kernel_rfl) ⟨h0, h1, h2, h3, h4, h5, h6, h7, h8, h9, h10, h11, h12, h13, h14, h15, h16, h17, h18, h19, h20, h21, trivial⟩ (holdsB ⟨rfl, rfl, h22, rfl, h23, h24, rfl, h25, rfl, h26, trivial⟩) (by kernel_rfl) (by kernel_rfl) (by kernel_rfl) (by kernel_rfl) (by kernel_rfl)
def ww0 : List AV × List Blk → Option (List Bool × AX × List AV × List Blk) := fun x => match x with
 | ([.ptr (some (0, 0)), .slice (some (1, 0)) n none, .fsl lb lm lw, .int .i64 (.ofNat m), .int .i64 (.ofNat i)], [.cells true 103 7 [.int .u8 op, .int .u8 sub, .int .u8 pl, .int .u32 fi, .int .u8 ct, .fsl la ln lv, .fsl da dn dv], .cells true 5 n' cs]) =>
  some ([u8L cs, Nat.beq cs.length n, Nat.beq n' n, isU .u32 lw, Nat.beq lw.length lm, Nat.beq m lm, Nat.beq i 0, Nat.ble 1 lm, Nat.ble lm 16, Nat.ble n 1000, AV.plainL lv, isD dv, Nat.beq dv.length dn, dataOK op lm dn dv], .normal,
   [.ptr (some (0, 0)), .slice (some (2, 0)) (kept (n + sizeB op lm)) none, .fsl lb lm lw, .int .i64 (Int.ofNat lm), .int .i64 (Int.ofNat lm)], [.cells true 103 7 [.int .u8 op, .int .u8 sub, .int .u8 pl, .int .u32 fi, .int .u8 ct, .fsl la ln lv, .fsl da dn dv], .cells true 5 n' cs, .cells true 5 (kept (n + sizeB op lm)) (kept (ofBytes (bytesL cs ++ bodyB op (numsU lw) (datB dv))))])
 | _ => none
def wwL : ZLT := ⟨69, blockOf Try.f57 1, [1, 4, 36, 37, 38], 0, [], .leaf ww0⟩
def wwE (op sub pl fi ct : Int) (la : Bool) (ln : Nat) (lv : List AV) (da : Bool) (ds : List (Bool × List UInt8)) (w : List UInt8) (lb : Bool) (zs : List UInt32) (i : Nat) : ZSt := match i with
 | 0 => ([.ptr (some (0, 0)), .slice (some (1, 0)) w.length none, .fsl lb zs.length (encU .u32 zs), .int .i64 (Int.ofNat zs.length), .int .i64 (Int.ofNat 0)], [.cells true 103 7 [.int .u8 op, .int .u8 sub, .int .u8 pl, .int .u32 fi, .int .u8 ct, .fsl la ln lv, .fsl da ds.length (encD ds)], .cells true 5 w.length (ofBytes w)])
 | j + 1 => ([.ptr (some (0, 0)), .slice (some (2, 0)) (w.length + sizeB op (j + 1)) none, .fsl lb zs.length (encU .u32 zs), .int .i64 (Int.ofNat zs.length), .int .i64 (Int.ofNat (j + 1))], [.cells true 103 7 [.int .u8 op, .int .u8 sub, .int .u8 pl, .int .u32 fi, .int .u8 ct, .fsl la ln lv, .fsl da ds.length (encD ds)], .cells true 5 w.length (ofBytes w), .cells true 5 (w.length + sizeB op (j + 1)) (ofBytes (w ++ bodyB op (zs.take (j + 1)) (ds.map Prod.snd)))])
theorem wwE_some (op sub pl fi ct : Int) (la : Bool) (ln : Nat) (lv : List AV) (da : Bool) (ds : List (Bool × List UInt8)) (w : List UInt8) (lb : Bool) (zs : List UInt32) (i : Nat) (h : i ≠ 0) : wwE op sub pl fi ct la ln lv da ds w lb zs i = ([.ptr (some (0, 0)), .slice (some (2, 0)) (w.length + sizeB op i) none, .fsl lb zs.length (encU .u32 zs), .int .i64 (Int.ofNat zs.length), .int .i64 (Int.ofNat i)], [.cells true 103 7 [.int .u8 op, .int .u8 sub, .int .u8 pl, .int .u32 fi, .int .u8 ct, .fsl la ln lv, .fsl da ds.length (encD ds)], .cells true 5 w.length (ofBytes w), .cells true 5 (w.length + sizeB op i) (ofBytes (w ++ bodyB op (zs.take i) (ds.map Prod.snd)))]) := by
 cases i with
 | zero => exact absurd rfl h
 | succ j => rfl
theorem wwL_ok : wwL.OK Try.prog (tyCx tys) (flOf tys) 1 := by
 · intro vs bs conds X vs' bs' h hc hin
   have h : ww0 (vs, bs) = some (conds, X, vs', bs') := h
   unfold ww0 at h
   split at h
   · rename_i n lb lm lw m i op sub pl fi ct la ln lv da dn dv n' cs he
     injection he with he1 he2
     subst he1; subst he2
     injection h with h; injection h with e1 h; injection h with e2 h; injection h with e3 e4
     subst e1; subst e2; subst e3; subst e4
     simp only [allTrue_cons] at hc
     obtain ⟨c1, c2, c3, c4, c5, c6, c7, c8, c9, c10, p2, c11, c12, c13, _⟩ := hc
     obtain ⟨w, rfl⟩ := u8L_iff.1 c1
     obtain ⟨zs, rfl⟩ := isU_iff.1 c4
     obtain ⟨ds, rfl⟩ := isD_iff.1 c11
     have c2 := eq_of_beq' c2
     have c3 := eq_of_beq' c3
     have c5 := eq_of_beq' c5
     have c6 := eq_of_beq' c6
     have c7 := eq_of_beq' c7
     have c12 := eq_of_beq' c12
     rw [ofBytes_length] at c2
     rw [encU_length] at c5
     rw [encD_length] at c12
     subst c3; subst c6; subst c7; subst c2; subst c5; subst c12
     have c8 := Nat.le_of_ble_eq_true c8
     have c9 := Nat.le_of_ble_eq_true c9
     have c10 := Nat.le_of_ble_eq_true c10
     have c13 : op = 2 → zs.length = ds.length ∧ okD p440 (encD ds) = true := of_decide_eq_true c13
     rw [kept_eq, kept_eq, bytesL_ofBytes, numsU_encU]
     have ed : datB (encD ds) = ds.map Prod.snd := by unfold datB; rw [rowsD_encD]
     rw [ed]
     have h440 : op = 2 → ∀ (i : Nat) (d : List UInt8), (ds.map Prod.snd)[i]? = some d → d.length = 440 := by
      intro ho i d hd
      rw [List.getElem?_map, Option.map_eq_some_iff] at hd
      obtain ⟨x, hx, rfl⟩ := hd
      exact eq_of_beq' (okD_at (c13 ho).2 hx)
     have key := CodeOK.loop (P := Try.prog) (cx := tyCx tys) (nn := 69) (n0 := 2) (b := roundOf (blockOf Try.f57 1)) (fun q : {i : Nat // i ≤ zs.length} => (wwL.at ww0).st (wwE op sub pl fi ct la ln lv da ds w lb zs q.1))
      (fun q => (.exit 1, (wwL.at ww0).st (wwE op sub pl fi ct la ln lv da ds w lb zs (zs.length)))) (fun q => zs.length - q.1) (fun q => by
      obtain ⟨i, hi⟩ := q
      simp only
      by_cases hlt : i < zs.length
      · refine .inl ⟨⟨i + 1, hlt⟩, ?_, trivial, by simp only; omega⟩
        have k0 : iltB (Int.ofNat i) (Int.ofNat (zs.length)) = true := by rw [iltB_eq]; exact decide_eq_true (by show (i : Int) < ((zs.length : Nat) : Int); omega)
        have hw : wrapA .i64 ((Int.ofNat i).add (Int.ofNat 1)) = Int.ofNat (i + 1) := wrapA_nat .i64 (i + 1) (by show _ < 9223372036854775808; omega)
        have z0 : (Int.ofNat i).toNat = i := rfl
        obtain ⟨x, hx⟩ : ∃ x, zs[i]? = some x := ⟨_, List.getElem?_eq_getElem hlt⟩
        have e1 : (listAt (List.drop i (encU .u32 zs)) 0).getD AV.undef = .int .u32 (x.toNat : Int) := by
         have := encU_at .u32 zs i x hx
         rwa [show (Int.ofNat i).toNat * 1 = i from Nat.mul_one i] at this
        have tk : zs.take (i + 1) = zs.take i ++ [x] := by rw [List.take_add_one, hx]; rfl
        have tl : (zs.take i).length = i := by rw [List.length_take]; omega
        have g0 := u32_ge x
        have g1 := u32_lt x
        have e6 := encU_plainL .u32 zs
        have e7 := encD_plainL ds
        have p4 : (putB 4 x.toNat).length = 4 := putB_length 4 _
        have pb : [UInt8.ofNat (x.toNat / 16777216), UInt8.ofNat (x.toNat / 65536), UInt8.ofNat (x.toNat / 256), UInt8.ofNat (x.toNat / 1)] = putB 4 x.toNat := rfl
        have bl : (bodyB op (zs.take i) (ds.map Prod.snd)).length = sizeB op i := by
         have := bodyB_len op (zs.take i) (ds.map Prod.snd) (fun h => by have := (c13 h).1; rw [List.length_map]; omega) (fun h i d _ hd => h440 h i d hd)
         rw [tl] at this; exact this
        have sb : sizeB op i ≤ 444 * i := by unfold sizeB; split <;> omega
        have rc : ∀ (L : List UInt8) (n : Nat), L.length = n → rowCut (ofBytes L) 0 n = ofBytes L := fun L n h => rowCut_all L n h
        have it : (x.toNat : Int).toNat = x.toNat := rfl
        cases i with
        | zero =>
         have wl : (w).length = w.length := by rfl
         have rw0 : rowCut (ofBytes w) 0 w.length = ofBytes w := rc _ _ wl
         by_cases ho : op = 2
         · have k2 : ieqB op (Int.ofNat 2) = true := by rw [ho]; rfl
           obtain ⟨y, hy⟩ : ∃ y, ds[0]? = some y := ⟨_, List.getElem?_eq_getElem (by have := (c13 ho).1; omega)⟩
           have y4 : y.2.length = 440 := eq_of_beq' (okD_at (c13 ho).2 hy)
           have e8 : (listAt (List.drop 0 (encD ds)) 0).getD AV.undef = .fsl y.1 y.2.length (ofBytes y.2) := by
            have := encD_at ds 0 y hy
            rwa [show (Int.ofNat 0).toNat * 1 = 0 from Nat.mul_one _] at this
           have il : 0 < ds.length := (List.getElem?_eq_some_iff.1 hy).1
           have key := wA_2 op sub pl fi ct la ln lv da ds.length (encD ds) w.length w.length (ofBytes w) lb zs.length (encU .u32 zs) zs.length 0
           iterate 26
            replace key := key (by
             (try simp only [cA, AV.intOf, e1, Nat.zero_add, Nat.mul_one, z0, hw, k0, kept_eq, it, pb, g0, g1, e6, e7, p2, wl, rw0, bytesL_ofBytes, ← ofBytes_append, ofBytes_length, List.length_append, p4, k2, e8, AV.fslCells, AV.fslLen, AV.isFsl, y4])
             first
              | done
              | with_reducible rfl
              | with_reducible exact encU_plainL _ _
              | with_reducible exact ofBytes_plainL _
              | with_reducible exact u8L_ofBytes _
              | exact room_of (by omega) (by omega)
              | exact ofBytes_cells _
              | (simp [cA, e1, nbeq, nble, encU_length, AV.isInt, ofBytes_length, wl, u8L_ofBytes, ofBytes_plainL]; done)
              | (simp [cA, e1, nbeq, nble, encU_length, AV.isInt, ofBytes_length, wl]; omega)
              | (simp [cA, e8, nbeq, nble, encD_length, AV.isFsl, AV.fslLen, AV.fslCells, y4, ofBytes_length]; done)
              | (simp [cA, e8, nbeq, nble, encD_length, AV.isFsl, AV.fslLen, AV.fslCells, y4, ofBytes_length]; omega))
           simp only [cA, AV.intOf, e1, Nat.zero_add, Nat.mul_one, z0, hw, k0, kept_eq, it, pb, g0, g1, e6, e7, p2, wl, rw0, bytesL_ofBytes, ← ofBytes_append, ofBytes_length, List.length_append, p4, k2, e8, AV.fslCells, AV.fslLen, y4] at key
           have eb : ofBytes (w ++ putB 4 x.toNat ++ y.2) = ofBytes (w ++ bodyB op (zs.take (0 + 1)) (ds.map Prod.snd)) := by
            congr 1
            rw [tk, bodyB_snoc, tl]
            rw [if_pos ho, List.getElem?_map, hy]
            simp [bodyB]
           have en : w.length + 4 + 440 = w.length + sizeB op (0 + 1) := by (unfold sizeB; simp only [if_pos ho] <;> omega)
           have key := key
           (try simp only [List.append_assoc] at key)
           (try simp only [List.append_assoc] at eb)
           rw [eb, en] at key
           exact key
         · have k2 : ieqB op (Int.ofNat 2) = false := by rw [ieqB_eq]; exact beq_eq_false_iff_ne.2 ho
           have key := wA_3 op sub pl fi ct la ln lv da ds.length (encD ds) w.length w.length (ofBytes w) lb zs.length (encU .u32 zs) zs.length 0
           iterate 17
            replace key := key (by
             (try simp only [cA, AV.intOf, e1, Nat.zero_add, Nat.mul_one, z0, hw, k0, kept_eq, it, pb, g0, g1, e6, e7, p2, wl, rw0, bytesL_ofBytes, ← ofBytes_append, ofBytes_length, List.length_append, p4, k2])
             first
              | done
              | with_reducible rfl
              | with_reducible exact encU_plainL _ _
              | with_reducible exact ofBytes_plainL _
              | with_reducible exact u8L_ofBytes _
              | exact room_of (by omega) (by omega)
              | exact ofBytes_cells _
              | (simp [cA, e1, nbeq, nble, encU_length, AV.isInt, ofBytes_length, wl, u8L_ofBytes, ofBytes_plainL]; done)
              | (simp [cA, e1, nbeq, nble, encU_length, AV.isInt, ofBytes_length, wl]; omega))
           simp only [cA, AV.intOf, e1, Nat.zero_add, Nat.mul_one, z0, hw, k0, kept_eq, it, pb, g0, g1, e6, e7, p2, wl, rw0, bytesL_ofBytes, ← ofBytes_append, ofBytes_length, List.length_append, p4, k2] at key
           have eb : ofBytes (w ++ putB 4 x.toNat) = ofBytes (w ++ bodyB op (zs.take (0 + 1)) (ds.map Prod.snd)) := by
            congr 1
            rw [tk, bodyB_snoc, tl]
            rw [if_neg ho]
            simp [bodyB]
           have en : w.length + 4 = w.length + sizeB op (0 + 1) := by (unfold sizeB; simp only [if_neg ho] <;> omega)
           (try simp only [List.append_assoc] at key)
           (try simp only [List.append_assoc] at eb)
           rw [eb, en] at key
           exact key
        | succ j =>
         have wl : ((w ++ bodyB op (zs.take (j + 1)) (ds.map Prod.snd))).length = (w.length + sizeB op (j + 1)) := by rw [List.length_append, bl]
         have rw0 : rowCut (ofBytes (w ++ bodyB op (zs.take (j + 1)) (ds.map Prod.snd))) 0 (w.length + sizeB op (j + 1)) = ofBytes (w ++ bodyB op (zs.take (j + 1)) (ds.map Prod.snd)) := rc _ _ wl
         by_cases ho : op = 2
         · have k2 : ieqB op (Int.ofNat 2) = true := by rw [ho]; rfl
           obtain ⟨y, hy⟩ : ∃ y, ds[(j + 1)]? = some y := ⟨_, List.getElem?_eq_getElem (by have := (c13 ho).1; omega)⟩
           have y4 : y.2.length = 440 := eq_of_beq' (okD_at (c13 ho).2 hy)
           have e8 : (listAt (List.drop (j + 1) (encD ds)) 0).getD AV.undef = .fsl y.1 y.2.length (ofBytes y.2) := by
            have := encD_at ds (j + 1) y hy
            rwa [show (Int.ofNat (j + 1)).toNat * 1 = (j + 1) from Nat.mul_one _] at this
           have il : (j + 1) < ds.length := (List.getElem?_eq_some_iff.1 hy).1
           have key := wB_2 op sub pl fi ct la ln lv da ds.length (encD ds) w.length (ofBytes w) (w.length + sizeB op (j + 1)) (w.length + sizeB op (j + 1)) (ofBytes (w ++ bodyB op (zs.take (j + 1)) (ds.map Prod.snd))) lb zs.length (encU .u32 zs) zs.length (j + 1)
           iterate 27
            replace key := key (by
             (try simp only [cA, AV.intOf, e1, Nat.zero_add, Nat.mul_one, z0, hw, k0, kept_eq, it, pb, g0, g1, e6, e7, p2, wl, rw0, bytesL_ofBytes, ← ofBytes_append, ofBytes_length, List.length_append, p4, k2, e8, AV.fslCells, AV.fslLen, AV.isFsl, y4])
             first
              | done
              | with_reducible rfl
              | with_reducible exact encU_plainL _ _
              | with_reducible exact ofBytes_plainL _
              | with_reducible exact u8L_ofBytes _
              | exact room_of (by omega) (by omega)
              | exact ofBytes_cells _
              | (simp [cA, e1, nbeq, nble, encU_length, AV.isInt, ofBytes_length, wl, u8L_ofBytes, ofBytes_plainL]; done)
              | (simp [cA, e1, nbeq, nble, encU_length, AV.isInt, ofBytes_length, wl]; omega)
              | (simp [cA, e8, nbeq, nble, encD_length, AV.isFsl, AV.fslLen, AV.fslCells, y4, ofBytes_length]; done)
              | (simp [cA, e8, nbeq, nble, encD_length, AV.isFsl, AV.fslLen, AV.fslCells, y4, ofBytes_length]; omega))
           simp only [cA, AV.intOf, e1, Nat.zero_add, Nat.mul_one, z0, hw, k0, kept_eq, it, pb, g0, g1, e6, e7, p2, wl, rw0, bytesL_ofBytes, ← ofBytes_append, ofBytes_length, List.length_append, p4, k2, e8, AV.fslCells, AV.fslLen, y4] at key
           have eb : ofBytes ((w ++ bodyB op (zs.take (j + 1)) (ds.map Prod.snd)) ++ putB 4 x.toNat ++ y.2) = ofBytes (w ++ bodyB op (zs.take ((j + 1) + 1)) (ds.map Prod.snd)) := by
            congr 1
            rw [tk, bodyB_snoc, tl]
            rw [if_pos ho, List.getElem?_map, hy]
            simp [List.append_assoc]
           have en : (w.length + sizeB op (j + 1)) + 4 + 440 = w.length + sizeB op ((j + 1) + 1) := by (unfold sizeB; simp only [if_pos ho] <;> omega)
           have key := key
           (try simp only [List.append_assoc] at key)
           (try simp only [List.append_assoc] at eb)
           rw [eb, en] at key
           exact key
         · have k2 : ieqB op (Int.ofNat 2) = false := by rw [ieqB_eq]; exact beq_eq_false_iff_ne.2 ho
           have key := wB_3 op sub pl fi ct la ln lv da ds.length (encD ds) w.length (ofBytes w) (w.length + sizeB op (j + 1)) (w.length + sizeB op (j + 1)) (ofBytes (w ++ bodyB op (zs.take (j + 1)) (ds.map Prod.snd))) lb zs.length (encU .u32 zs) zs.length (j + 1)
           iterate 18
            replace key := key (by
             (try simp only [cA, AV.intOf, e1, Nat.zero_add, Nat.mul_one, z0, hw, k0, kept_eq, it, pb, g0, g1, e6, e7, p2, wl, rw0, bytesL_ofBytes, ← ofBytes_append, ofBytes_length, List.length_append, p4, k2])
             first
              | done
              | with_reducible rfl
              | with_reducible exact encU_plainL _ _
              | with_reducible exact ofBytes_plainL _
              | with_reducible exact u8L_ofBytes _
              | exact room_of (by omega) (by omega)
              | exact ofBytes_cells _
              | (simp [cA, e1, nbeq, nble, encU_length, AV.isInt, ofBytes_length, wl, u8L_ofBytes, ofBytes_plainL]; done)
              | (simp [cA, e1, nbeq, nble, encU_length, AV.isInt, ofBytes_length, wl]; omega))
           simp only [cA, AV.intOf, e1, Nat.zero_add, Nat.mul_one, z0, hw, k0, kept_eq, it, pb, g0, g1, e6, e7, p2, wl, rw0, bytesL_ofBytes, ← ofBytes_append, ofBytes_length, List.length_append, p4, k2] at key
           have eb : ofBytes ((w ++ bodyB op (zs.take (j + 1)) (ds.map Prod.snd)) ++ putB 4 x.toNat) = ofBytes (w ++ bodyB op (zs.take ((j + 1) + 1)) (ds.map Prod.snd)) := by
            congr 1
            rw [tk, bodyB_snoc, tl]
            rw [if_neg ho]
            simp [List.append_assoc]
           have en : (w.length + sizeB op (j + 1)) + 4 = w.length + sizeB op ((j + 1) + 1) := by (unfold sizeB; simp only [if_neg ho] <;> omega)
           (try simp only [List.append_assoc] at key)
           (try simp only [List.append_assoc] at eb)
           rw [eb, en] at key
           exact key
      · have hi : zs.length = i := by omega
        subst hi
        refine .inr ⟨?_, by simp⟩
        have k0 : iltB (Int.ofNat (zs.length)) (Int.ofNat (zs.length)) = false := by rw [iltB_eq]; exact decide_eq_false (by show ¬ ((zs.length : Nat) : Int) < ((zs.length : Nat) : Int); omega)
        rw [wwE_some op sub pl fi ct la ln lv da ds w lb zs _ (by omega)]
        exact wB_e op sub pl fi ct la ln lv da ds.length (encD ds) w.length (ofBytes w) (w.length + sizeB op zs.length) (w.length + sizeB op zs.length) (ofBytes (w ++ bodyB op (zs.take zs.length) (ds.map Prod.snd))) lb zs.length (encU .u32 zs) zs.length zs.length k0 (encU_plainL _ _) p2 (encD_plainL _) (ofBytes_plainL _) (ofBytes_plainL _)) ⟨0, Nat.zero_le _⟩
     rw [wwE_some op sub pl fi ct la ln lv da ds w lb zs zs.length (by omega), List.take_length] at key
     exact CodeOK.block 1 key
   · cases h
end Go.Proofs.Ytecncappdnhbaaa
end
end
