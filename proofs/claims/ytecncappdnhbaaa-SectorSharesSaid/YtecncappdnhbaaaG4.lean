/- Texts of the abstract machine and of the laws, merged. -/
import Derived.Test.YtecncappdnhbaaaGT
import Derived.Test.YtecncappdnhbaaaG3
/- The seat's machine, with what is known. -/
section
set_option autoImplicit false
set_option linter.unusedVariables false
set_option maxRecDepth 100000
noncomputable section
namespace Go.Proofs.Ytecncappdnhbaaa
open Go.Ab
abbrev tys := T.get none atys
abbrev fns := T.get none afns
/-- nothing is known. -/
abbrev C0 := mkCx tys fns [] []
theorem all0 : SumAll Try.prog C0 := sums_all (fun _ h => by cases h) (fun _ h => by cases h)
end Go.Proofs.Ytecncappdnhbaaa
end
end

/- Words that are turned: plain laws. -/
section
section
set_option autoImplicit false
set_option linter.unusedVariables false
set_option linter.unusedSimpArgs false
namespace Go.Ab




end Go.Ab
end
end

/- Bits of words: plain laws. -/
section
section
set_option autoImplicit false
set_option linter.unusedVariables false
set_option linter.unusedSimpArgs false
namespace Go.Ab



/-! ### Words as natural numbers -/
theorem wrapA_nat (k : IntKind) (m : Nat) (h : m < topK k) : wrapA k (m : Int) = m := by rw [wrapA_eq]; exact wrap_small k m h
theorem orN_nat (k : IntKind) (x y : Nat) (hx : x < topK k) (hy : y < topK k) : orN k (x : Int) (y : Int) = ((x ||| y : Nat) : Int) := by
  have h := iOr_eq k (x : Int) (y : Int)
  unfold iOr at h
  injection h with _ h
  rw [h, BitVec.toNat_or, ofInt_small k x hx, ofInt_small k y hy]
  obtain ⟨j, hj, _⟩ := topK_pow k
  refine wrap_small k _ ?_
  rw [hj] at hx hy ⊢
  exact Nat.or_lt_two_pow hx hy
theorem xorN_nat (k : IntKind) (x y : Nat) (hx : x < topK k) (hy : y < topK k) : xorN k (x : Int) (y : Int) = ((x ^^^ y : Nat) : Int) := by
  have h := iXor_eq k (x : Int) (y : Int)
  unfold iXor at h
  injection h with _ h
  rw [h, BitVec.toNat_xor, ofInt_small k x hx, ofInt_small k y hy]
  obtain ⟨j, hj, _⟩ := topK_pow k
  refine wrap_small k _ ?_
  rw [hj] at hx hy ⊢
  exact Nat.xor_lt_two_pow hx hy
theorem i64_add (a b : Nat) (h : a + b < 9223372036854775808) : wrapA .i64 (Int.add (a : Int) (b : Int)) = ((a + b : Nat) : Int) := by
  have : Int.add (a : Int) (b : Int) = ((a + b : Nat) : Int) := by show (a : Int) + b = _; omega
  rw [this]; exact wrapA_nat .i64 _ h
theorem nat_of {x : Int} (h : ileB 0 x = true) : ∃ y : Nat, x = y := by
  rw [ileB_eq] at h
  exact ⟨x.toNat, by have := of_decide_eq_true h; omega⟩
theorem lt_of {x y : Nat} (h : iltB (x : Int) (y : Int) = true) : x < y := by
  rw [iltB_eq] at h
  have := of_decide_eq_true h; omega
end Go.Ab
end
end

/- The bits of words: what the functions that count them do. -/
section
set_option autoImplicit false
set_option linter.unusedVariables false
set_option linter.unusedSimpArgs false
set_option maxRecDepth 100000
noncomputable section
namespace Go.Proofs.Ytecncappdnhbaaa
open Go Go.Ab
end Go.Proofs.Ytecncappdnhbaaa
namespace Go.Ab.M
end Go.Ab.M
namespace Go.Proofs.Ytecncappdnhbaaa
open Go.Ab.M Go.Ab Go
end Go.Proofs.Ytecncappdnhbaaa
end
end

/- Words: rows of the functions that count, turn, tell a bit. -/
section
set_option autoImplicit false
set_option linter.unusedVariables false
set_option linter.unusedSimpArgs false
set_option maxRecDepth 100000
noncomputable section
namespace Go.Ab.M
end Go.Ab.M
namespace Go.Proofs.Ytecncappdnhbaaa
open Go.Ab.M Go.Ab Go
/-- how many bits a word has; the chapter's example. -/
abbrev F01 : FTab := [(63, RSum.const (.int .i64 (Int.ofNat 8))), (64, RSum.const (.int .i64 (Int.ofNat 16))), (65, RSum.const (.int .i64 (Int.ofNat 32))), (66, RSum.const (.int .i64 (Int.ofNat 64))), (15, RSum.const (.bool true))]
abbrev C01 := mkCx tys fns F01 []
theorem bits_u8 :
    ∃ h', aCall C0 100 (Tgt.fn 63) [] H0 = some (AV.int IntKind.i64 (Int.ofNat 8), h') ∧ [].map h'.get = [] :=
  call_run (q := (cs 17 [])) (c := []) (by kernel_rfl) trivial
theorem bits_u16 :
    ∃ h', aCall C0 100 (Tgt.fn 64) [] H0 = some (AV.int IntKind.i64 (Int.ofNat 16), h') ∧ [].map h'.get = [] :=
  call_run (q := (cs 33 [])) (c := []) (by kernel_rfl) trivial
theorem bits_u32 :
    ∃ h', aCall C0 100 (Tgt.fn 65) [] H0 = some (AV.int IntKind.i64 (Int.ofNat 32), h') ∧ [].map h'.get = [] :=
  call_run (q := (cs 65 [])) (c := []) (by kernel_rfl) trivial
theorem bits_u64 :
    ∃ h', aCall C0 100 (Tgt.fn 66) [] H0 = some (AV.int IntKind.i64 (Int.ofNat 64), h') ∧ [].map h'.get = [] :=
  call_run (q := (cs 129 [])) (c := []) (by kernel_rfl) trivial
theorem lives01 :
    ∃ h', aCall C0 100 (Tgt.fn 15) [] H0 = some (AV.bool true, h') ∧ [].map h'.get = [] :=
  call_run (q := (cs 80 [])) (c := []) (by kernel_rfl) trivial
theorem f01_ok : ∀ p ∈ F01, RSum.Sound Try.prog tys p.1 p.2 := by
  intro p h
  simp only [F01, List.mem_cons, List.not_mem_nil, or_false] at h
  rcases h with rfl | rfl | rfl | rfl | rfl
  · exact RSum.sound (cx_goes _ _) all0 (RSum.const_ok rfl (let ⟨h', h, _⟩ := bits_u8; ⟨h', h⟩))
  · exact RSum.sound (cx_goes _ _) all0 (RSum.const_ok rfl (let ⟨h', h, _⟩ := bits_u16; ⟨h', h⟩))
  · exact RSum.sound (cx_goes _ _) all0 (RSum.const_ok rfl (let ⟨h', h, _⟩ := bits_u32; ⟨h', h⟩))
  · exact RSum.sound (cx_goes _ _) all0 (RSum.const_ok rfl (let ⟨h', h, _⟩ := bits_u64; ⟨h', h⟩))
  · exact RSum.sound (cx_goes _ _) all0 (RSum.const_ok rfl (let ⟨h', h, _⟩ := lives01; ⟨h', h⟩))
theorem all01 : SumAll Try.prog C01 := sums_all f01_ok (fun _ h => by cases h)
end Go.Proofs.Ytecncappdnhbaaa
end
end

/- Rows of bytes: plain laws. -/
section
set_option autoImplicit false
set_option linter.unusedVariables false
set_option linter.unusedSimpArgs false
noncomputable section
namespace Go.Ab
namespace M
/-- a value that a run does not look into. -/
def kept {α : Type} (a : α) : α := Classical.choose (⟨a, rfl⟩ : ∃ x, x = a)
theorem kept_eq {α : Type} (a : α) : kept a = a := Classical.choose_spec (⟨a, rfl⟩ : ∃ x, x = a)
/-- is a cell a byte? -/
def u8 : AV → Bool
  | .int k n => decide (k = .u8) && ileB 0 n && iltB n 256
  | _ => false
def u8L (l : List AV) : Bool := List.rec (motive := fun _ => Bool) true (fun v _ r => cb (u8 v) r false) l
def byte (v : AV) : UInt8 := UInt8.ofNat v.intOf.toNat
def bytesL (l : List AV) : List UInt8 := l.map byte
/-- a number as so many bytes, the highest first. -/
def putB (w x : Nat) : List UInt8 := (List.range w).map fun i => UInt8.ofNat (x / 256 ^ (w - 1 - i))
/-- the number that bytes write. -/
def getN (l : List UInt8) : Nat := l.foldl (fun x b => x * 256 + b.toNat) 0
end M
open M
theorem u8_iff {v : AV} : M.u8 v = true ↔ ∃ b : UInt8, v = .int .u8 b.toNat := by
  constructor
  · intro h
    cases v <;> simp only [M.u8] at h <;> try (cases h; done)
    rename_i k n
    simp only [Bool.and_eq_true, decide_eq_true_eq, ileB_eq, iltB_eq] at h
    obtain ⟨⟨rfl, h1⟩, h2⟩ := h
    refine ⟨UInt8.ofNat n.toNat, ?_⟩
    congr 1
    have : (UInt8.ofNat n.toNat).toNat = n.toNat % 256 := by simp
    rw [this]; omega
  · rintro ⟨b, rfl⟩
    have := b.toNat_lt
    simp only [M.u8, Bool.and_eq_true, decide_eq_true_eq, ileB_eq, iltB_eq]
    refine ⟨⟨trivial, by omega⟩, by omega⟩
theorem u8L_cons (v : AV) (l : List AV) : u8L (v :: l) = (M.u8 v && u8L l) := by
  show cb (M.u8 v) (u8L l) false = _
  cases M.u8 v <;> rfl
theorem ofBytes_cons (b : UInt8) (l : List UInt8) : ofBytes (b :: l) = .int .u8 b.toNat :: ofBytes l := rfl
theorem ofBytes_append (a b : List UInt8) : ofBytes (a ++ b) = ofBytes a ++ ofBytes b := by simp [ofBytes]
theorem ofBytes_length (l : List UInt8) : (ofBytes l).length = l.length := by simp [ofBytes]
theorem u8L_ofBytes (l : List UInt8) : u8L (ofBytes l) = true := by
  induction l with
  | nil => rfl
  | cons b l ih => rw [ofBytes_cons, u8L_cons, ih, Bool.and_true]; exact u8_iff.2 ⟨b, rfl⟩
theorem u8L_iff {cs : List AV} : u8L cs = true ↔ ∃ l, cs = ofBytes l := by
  constructor
  · intro h
    induction cs with
    | nil => exact ⟨[], rfl⟩
    | cons v cs ih =>
      rw [u8L_cons, Bool.and_eq_true] at h
      obtain ⟨b, rfl⟩ := u8_iff.1 h.1
      obtain ⟨l, rfl⟩ := ih h.2
      exact ⟨b :: l, rfl⟩
  · rintro ⟨l, rfl⟩; exact u8L_ofBytes l
theorem byte_int (b : UInt8) : M.byte (.int .u8 b.toNat) = b := by
  show UInt8.ofNat ((b.toNat : Int).toNat) = b
  simp
theorem bytesL_ofBytes (l : List UInt8) : bytesL (ofBytes l) = l := by
  induction l with
  | nil => rfl
  | cons b l ih =>
    show M.byte _ :: bytesL (ofBytes l) = _
    rw [ih, byte_int]
theorem bytesOf_ofBytes (l : List UInt8) : bytesOf (ofBytes l) = some l := by
  induction l with
  | nil => rfl
  | cons b l ih =>
    rw [ofBytes_cons]
    show ((byteOf (.int .u8 b.toNat)).ob fun c => (bytesOf (ofBytes l)).ob fun r => some (c :: r)) = _
    rw [ih]
    show some (UInt8.ofNat ((b.toNat : Int).toNat) :: l) = _
    simp
theorem ofBytes_plain (nf : Bool) (l : List UInt8) : AV.okL nf (fun _ => false) (ofBytes l) = true := by
  induction l with
  | nil => rfl
  | cons b l ih => rw [ofBytes_cons]; simp only [AV.okL, AV.ok, Bool.true_and]; exact ih
theorem ofBytes_plainL (l : List UInt8) : AV.plainL (ofBytes l) = true := by
  induction l with
  | nil => rfl
  | cons b l ih => rw [ofBytes_cons]; simp only [AV.plainL, AV.plain, Bool.true_and]; exact ih
theorem ofBytes_cells (l : List UInt8) : (ofBytes l).all AV.isCell = true := by
  induction l with
  | nil => rfl
  | cons b l ih => rw [ofBytes_cons, List.all_cons, ih]; rfl
theorem ofBytes_take (l : List UInt8) (n : Nat) : (ofBytes l).take n = ofBytes (l.take n) := by simp [ofBytes, List.map_take]
theorem ofBytes_drop (l : List UInt8) (n : Nat) : (ofBytes l).drop n = ofBytes (l.drop n) := by simp [ofBytes, List.map_drop]
theorem rowCut_ofBytes (l : List UInt8) (o n : Nat) : rowCut (ofBytes l) o n = ofBytes ((l.drop o).take n) := by
  unfold rowCut; rw [ofBytes_drop, ofBytes_take]
theorem listAt_ofBytes (l : List UInt8) (i : Nat) (h : i < l.length) : listAt (ofBytes l) i = some (.int .u8 (l[i]).toNat) := by
  rw [listAt_eq]; simp [ofBytes, List.getElem?_map, h]
theorem putB_length (w x : Nat) : (putB w x).length = w := by simp [putB]
theorem getN_append (a : List UInt8) (b : UInt8) : getN (a ++ [b]) = getN a * 256 + b.toNat := by simp [getN]
theorem rev_ind {α : Type} {P : List α → Prop} (h0 : P []) (h : ∀ l a, P l → P (l ++ [a])) (l : List α) : P l := by
  have key : ∀ m : List α, P m.reverse := by
    intro m
    induction m with
    | nil => exact h0
    | cons a m ih => rw [List.reverse_cons]; exact h _ _ ih
  have := key l.reverse
  rwa [List.reverse_reverse] at this
theorem getN_lt (l : List UInt8) : getN l < 256 ^ l.length := by
  induction l using rev_ind with
  | h0 => simp [getN]
  | h l b ih =>
    rw [getN_append, List.length_append, List.length_singleton, Nat.pow_succ]
    have := b.toNat_lt
    have : getN l + 1 ≤ 256 ^ l.length := ih
    calc getN l * 256 + b.toNat < (getN l + 1) * 256 := by omega
      _ ≤ 256 ^ l.length * 256 := Nat.mul_le_mul_right _ this
theorem putB_succ (w x : Nat) : putB (w + 1) x = putB w (x / 256) ++ [UInt8.ofNat x] := by
  unfold putB
  rw [List.range_succ, List.map_append]
  congr 1
  · apply List.map_congr_left
    intro i hi
    have hi : i < w := List.mem_range.1 hi
    congr 1
    rw [show w + 1 - 1 - i = (w - 1 - i) + 1 by omega, Nat.pow_succ, Nat.mul_comm, Nat.div_div_eq_div_mul]
  · simp
theorem getN_putB (w x : Nat) (h : x < 256 ^ w) : getN (putB w x) = x := by
  induction w generalizing x with
  | zero => simp at h; subst h; rfl
  | succ w ih =>
    rw [putB_succ, getN_append, ih (x / 256) (by rw [Nat.pow_succ] at h; omega)]
    have : (UInt8.ofNat x).toNat = x % 256 := by simp
    rw [this]; omega
theorem putB_getN (l : List UInt8) : putB l.length (getN l) = l := by
  induction l using rev_ind with
  | h0 => rfl
  | h l b ih =>
    rw [List.length_append, List.length_singleton, putB_succ, getN_append]
    have hb := b.toNat_lt
    have e : (getN l * 256 + b.toNat) / 256 = getN l := by omega
    rw [e, ih]
    congr 2
    apply UInt8.toNat_inj.1
    have : (UInt8.ofNat (getN l * 256 + b.toNat)).toNat = (getN l * 256 + b.toNat) % 256 := by simp
    rw [this]; omega
end Go.Ab
end
end

/- Bytes: copies; words written behind bytes. -/
section
set_option autoImplicit false
set_option linter.unusedVariables false
set_option linter.unusedSimpArgs false
set_option maxRecDepth 100000
noncomputable section
namespace Go.Ab
theorem shr_byte (x j : Nat) : wrapA .u8 (shrN (x : Int) (8 * j)) = ((UInt8.ofNat (x / 256 ^ j)).toNat : Int) := by
  have e : shrN (x : Int) (8 * j) = ((x / 2 ^ (8 * j) : Nat) : Int) := rfl
  rw [e, wrapA_eq]
  simp only [IntKind.wrap, IntKind.signed, IntKind.bits, Bool.false_and, Bool.false_eq_true, if_false]
  have h : (UInt8.ofNat (x / 256 ^ j)).toNat = x / 256 ^ j % 256 := by simp
  have h2 : (2 : Nat) ^ (8 * j) = 256 ^ j := by rw [Nat.pow_mul]
  rw [h, h2]; simp
theorem room_of {len k : Nat} (h : len ≤ 1099511627776) (hk : k ≤ 1099511627776) : appRoom 1 len k = true := by
  unfold appRoom; exact decide_eq_true (by omega)
theorem beq_of {a b : Nat} (h : a = b) : Nat.beq a b = true := by rw [nbeq]; exact decide_eq_true h
theorem beq_of1 {a b : Nat} (h : a = b) : Nat.beq a (Nat.mul b 1) = true := by rw [nbeq]; exact decide_eq_true (by show a = b * 1; omega)
theorem ble_of {a b : Nat} (h : a ≤ b) : Nat.ble a b = true := by rw [nble]; exact decide_eq_true h
theorem eq_of_beq' {a b : Nat} (h : Nat.beq a b = true) : a = b := Nat.eq_of_beq_eq_true h
theorem le_of_ble' {a b : Nat} (h : Nat.ble a b = true) : a ≤ b := Nat.le_of_ble_eq_true h
end Go.Ab
namespace Go.Proofs.Ytecncappdnhbaaa
open Go.Ab.M Go.Ab Go
/-- a copy of bytes. -/
def cloneR : RSum := RSum.nb true fun us => match us with
  | [.fsl true 0 []] => some ([], fun _ => .slice none 0 (some 0), [])
  | [.fsl false len cs] => some ([Nat.beq cs.length len, u8L cs, Nat.ble len 1099511627776], fun n => .slice (some (n, 0)) len none, [.cells true 5 len cs])
  | _ => none
abbrev F03a : FTab := [(67, cloneR)] ++ F01
abbrev C03a := mkCx tys fns F03a []
theorem cloneN :
    ∃ h', aCall C0 60 (Tgt.fn 67) [AV.fsl true 0 []] H0 = some (AV.slice none 0 (some 0), h') ∧ [].map h'.get = [] :=
  call_run (q := (oc 1 [])) (c := ([])) (by kernel_rfl) trivial
theorem clone0 (len : Nat) (cs : List AV) (h0 : (cs.length.beq (len.mul 1)) = true) (h1 : (len.beq 0) = true) :
    ∃ h', aCall C0 60 (Tgt.fn 67) [AV.fsl false len cs] H0 = some (AV.slice (some (0, 0)) 0 (some 0), h') ∧ [0].map h'.get = [Blk.cells true 5 0 []] :=
  call_run (q := (oc 2 (.y :: (.y :: [])))) (c := (Cnd.tst _ true :: Cnd.tst _ true :: [])) (by kernel_rfl) ⟨h0, h1, trivial⟩
theorem clone1 (len : Nat) (cs : List AV) (h0 : (cs.length.beq (len.mul 1)) = true) (h1 : (len.beq 0) = false) (h2 : (appRoom 1 0 len) = true) (h3 : (Nat.ble 1 (0 + len)) = true) :
    ∃ h', aCall C0 60 (Tgt.fn 67) [AV.fsl false len cs] H0 = some (AV.slice (some (1, 0)) (0 + len) none, h') ∧ [1].map h'.get = [Blk.cells true 5 ([] ++ cs).length ([] ++ cs)] :=
  call_run (q := (oc 2 (.y :: (.z :: (.y :: (.y :: (oc 1 []))))))) (c := (Cnd.tst _ true :: Cnd.tst _ false :: Cnd.tst _ true :: Cnd.tst _ true :: [])) (by kernel_rfl) ⟨h0, h1, h2, h3, trivial⟩
theorem cloneR_ok : RSum.Sound Try.prog tys 67 cloneR := by
  refine RSum.sound (cx_goes _ _) all0 (RSum.nb_ok fun us c v bs hm hc => ?_)
  split at hm
  · injection hm with hm; injection hm with e1 hm; injection hm with e2 e3; subst e1; subst e2; subst e3
    obtain ⟨h', h, _⟩ := cloneN
    exact ⟨(fun b hb => by cases hb), 60, h', [], _, h, rfl, (fun l l' j e => by cases e), rfl, fun n ρ hρ => AV.Le.refl _⟩
  · rename_i len cs
    injection hm with hm; injection hm with e1 hm; injection hm with e2 e3; subst e1; subst e2; subst e3
    simp only [allTrue_cons] at hc
    obtain ⟨c1, c2, c3, _⟩ := hc
    have c1 := eq_of_beq' c1
    have c3 := le_of_ble' c3
    obtain ⟨l, rfl⟩ := u8L_iff.1 c2
    refine ⟨fun b hb => ?_, ?_⟩
    · have : b = .cells true 5 len (ofBytes l) := by simpa using hb
      subst this
      simp only [Blk.plainOwn, ofBytes_plain, Bool.and_self]
    · by_cases h0 : len = 0
      · obtain ⟨h', h, hb⟩ := clone0 len (ofBytes l) (beq_of1 c1) (beq_of h0)
        refine ⟨60, h', [0], _, h, ?_, sel_one 0, rfl, fun n ρ hρ => ?_⟩
        · rw [hb, h0]
          have : ofBytes l = [] := List.eq_nil_of_length_eq_zero (by omega)
          rw [this]
        · have := hρ 0 0 rfl
          simp only [AV.ren, Option.map_some, this, Nat.add_zero, h0]
          exact AV.Le.empty n
      · obtain ⟨h', h, hb⟩ := clone1 len (ofBytes l) (beq_of1 c1) (by rw [nbeq]; exact decide_eq_false h0) (room_of (by omega) c3) (ble_of (by omega))
        refine ⟨60, h', [1], _, h, ?_, sel_one 1, rfl, fun n ρ hρ => ?_⟩
        · rw [hb, List.nil_append, c1]
        · have := hρ 0 1 rfl
          simp only [AV.ren, Option.map_some, this, Nat.add_zero, Nat.zero_add]
          exact AV.Le.refl _
  · cases hm
theorem f03a_ok : ∀ p ∈ F03a, RSum.Sound Try.prog tys p.1 p.2 := by
  intro p h
  rcases List.mem_cons.1 h with rfl | h
  · exact cloneR_ok
  · exact f01_ok p h
theorem all03a : SumAll Try.prog C03a := sums_all f03a_ok (fun _ h => by cases h)
theorem putu16N (x : Int) :
    ∃ h', aCall C03a 60 (Tgt.fn 62) [AV.fsl true 0 [], AV.int IntKind.u16 x] H0 = some (AV.slice (some (3, 0)) 2 none, h') ∧ [3].map h'.get = [Blk.cells true 5 2 [AV.int IntKind.u8 (wrapA IntKind.u8 (shrN x 8)), AV.int IntKind.u8 (wrapA IntKind.u8 (shrN x 0))]] :=
  call_run (q := (oc 20 [])) (c := ([])) (by kernel_rfl) trivial
theorem putu16 (x : Int) (len : Nat) (cs : List AV) (h0 : (AV.plainL cs) = true) (h1 : (cs.length.beq len) = true) (h2 : (u8L cs) = true) (h3 : (len.ble 1099511627776) = true) (h4 : (appRoom 1 len 1) = true) (h5 : (len.beq (len * 1)) = true) (h6 : (appRoom 1 (len + 1) 1) = true) (h7 : ((cs ++ [AV.int IntKind.u8 (wrapA IntKind.u8 (shrN x 8))]).length.beq ((len + 1) * 1)) = true) :
    ∃ h', aCall C03a 60 (Tgt.fn 62) [AV.fsl false len cs, AV.int IntKind.u16 x] H0 = some (AV.slice (some (4, 0)) (len + 1 + 1) none, h') ∧ [4].map h'.get = [Blk.cells true 5 (cs ++ [AV.int IntKind.u8 (wrapA IntKind.u8 (shrN x 8))] ++ [AV.int IntKind.u8 (wrapA IntKind.u8 (shrN x 0))]).length (cs ++ [AV.int IntKind.u8 (wrapA IntKind.u8 (shrN x 8))] ++ [AV.int IntKind.u8 (wrapA IntKind.u8 (shrN x 0))])] :=
  call_run (q := (.y :: (.y :: (.y :: (.y :: (oc 7 (.y :: (.y :: (oc 8 (.y :: (.y :: (oc 2 [])))))))))))) (c := (Cnd.tst _ true :: Cnd.tst _ true :: Cnd.tst _ true :: Cnd.tst _ true :: Cnd.tst _ true :: Cnd.tst _ true :: Cnd.tst _ true :: Cnd.tst _ true :: [])) (by kernel_rfl) ⟨h0, h1, h2, h3, h4, h5, h6, h7, trivial⟩
theorem cells_u16 (x : Nat) (hx : x < 65536) : [AV.int .u8 (wrapA .u8 (shrN (x : Int) 8)), AV.int .u8 (wrapA .u8 (shrN (x : Int) 0))] = ofBytes (putB 2 x) := by
  have h : ofBytes (putB 2 x) = [.int .u8 ((UInt8.ofNat (x / 256 ^ 1)).toNat : Int), .int .u8 ((UInt8.ofNat (x / 256 ^ 0)).toNat : Int)] := rfl
  rw [h]
  have s : ∀ j, wrapA .u8 (shrN (x : Int) (8 * j)) = ((UInt8.ofNat (x / 256 ^ j)).toNat : Int) := shr_byte x
  have s0 := s 0
  have s1 := s 1
  simp only [← s0, ← s1]
def putRu16 : RSum := RSum.nb true fun us => match us with
  | [.fsl true 0 [], .int .u16 x] => some ([ileB 0 x, iltB x 65536], fun n => .slice (some (n, 0)) 2 none, [.cells true 5 2 (kept (ofBytes (putB 2 x.toNat)))])
  | [.fsl false len cs, .int .u16 x] => some ([Nat.beq cs.length len, u8L cs, Nat.ble len 1000000000000, ileB 0 x, iltB x 65536], fun n => .slice (some (n, 0)) (len + 2) none, [.cells true 5 (len + 2) (cs ++ kept (ofBytes (putB 2 x.toNat)))])
  | _ => none
theorem putRu16_ok : RSum.Sound Try.prog tys 62 putRu16 := by
  refine RSum.sound (cx_goes _ _) all03a (RSum.nb_ok fun us c v bs hm hc => ?_)
  split at hm
  · injection hm with hm; injection hm with e1 hm; injection hm with e2 e3; rw [kept_eq] at e3; subst e1; subst e2; subst e3
    simp only [allTrue_cons] at hc
    obtain ⟨c1, c2, _⟩ := hc
    obtain ⟨x, rfl⟩ := nat_of c1
    have c2 : x < 65536 := lt_of c2
    obtain ⟨h', h, hb⟩ := putu16N x
    refine ⟨fun b hb => ?_, 60, h', [3], _, h, ?_, sel_one 3, rfl, fun n ρ hρ => ?_⟩
    · have : b = .cells true 5 2 (ofBytes (putB 2 x)) := by simpa using hb
      subst this
      simp only [Blk.plainOwn, ofBytes_plain, Bool.and_self]
    · rw [hb, cells_u16 x c2]; rfl
    · have := hρ 0 3 rfl
      simp only [AV.ren, Option.map_some, this, Nat.add_zero]
      exact AV.Le.refl _
  · rename_i len cs x
    injection hm with hm; injection hm with e1 hm; injection hm with e2 e3; rw [kept_eq] at e3; subst e1; subst e2; subst e3
    simp only [allTrue_cons] at hc
    obtain ⟨c1, c2, c3, c4, c5, _⟩ := hc
    have c1 := eq_of_beq' c1
    have c3 := le_of_ble' c3
    obtain ⟨l, rfl⟩ := u8L_iff.1 c2
    obtain ⟨x, rfl⟩ := nat_of c4
    have c5 : x < 65536 := lt_of c5
    obtain ⟨h', h, hb⟩ := putu16 x len (ofBytes l) (ofBytes_plainL l) (beq_of c1) c2 (ble_of (by omega)) (room_of (by omega) (by omega)) (beq_of (by simp only [ofBytes_length, List.length_append, List.length_cons, List.length_nil] at c1 ⊢; omega)) (room_of (by omega) (by omega)) (beq_of (by simp only [ofBytes_length, List.length_append, List.length_cons, List.length_nil] at c1 ⊢; omega))
    refine ⟨fun b hb => ?_, 60, h', [4], _, h, ?_, sel_one 4, rfl, fun n ρ hρ => ?_⟩
    · have : b = .cells true 5 (len + 2) (ofBytes l ++ ofBytes (putB 2 x)) := by simpa using hb
      subst this
      rw [← ofBytes_append]
      simp only [Blk.plainOwn, ofBytes_plain, Bool.and_self]
    · rw [hb]
      try simp only [List.append_assoc, List.cons_append, List.nil_append]
      rw [cells_u16 x c5, List.length_append, c1, ofBytes_length, putB_length]; rfl
    · have := hρ 0 4 rfl
      simp only [AV.ren, Option.map_some, this, Nat.add_zero]
      exact AV.Le.refl _
  · cases hm
theorem putu32N (x : Int) :
    ∃ h', aCall C03a 60 (Tgt.fn 78) [AV.fsl true 0 [], AV.int IntKind.u32 x] H0 = some (AV.slice (some (7, 0)) 4 none, h') ∧ [7].map h'.get = [Blk.cells true 5 4 [AV.int IntKind.u8 (wrapA IntKind.u8 (shrN x 24)), AV.int IntKind.u8 (wrapA IntKind.u8 (shrN x 16)), AV.int IntKind.u8 (wrapA IntKind.u8 (shrN x 8)), AV.int IntKind.u8 (wrapA IntKind.u8 (shrN x 0))]] :=
  call_run (q := (oc 40 [])) (c := ([])) (by kernel_rfl) trivial
theorem putu32 (x : Int) (len : Nat) (cs : List AV) (h0 : (AV.plainL cs) = true) (h1 : (cs.length.beq len) = true) (h2 : (u8L cs) = true) (h3 : (len.ble 1099511627776) = true) (h4 : (appRoom 1 len 1) = true) (h5 : (len.beq (len * 1)) = true) (h6 : (appRoom 1 (len + 1) 1) = true) (h7 : ((cs ++ [AV.int IntKind.u8 (wrapA IntKind.u8 (shrN x 24))]).length.beq ((len + 1) * 1)) = true) (h8 : (appRoom 1 (len + 1 + 1) 1) = true) (h9 : ((cs ++ [AV.int IntKind.u8 (wrapA IntKind.u8 (shrN x 24))] ++ [AV.int IntKind.u8 (wrapA IntKind.u8 (shrN x 16))]).length.beq ((len + 1 + 1) * 1)) = true) (h10 : (appRoom 1 (len + 1 + 1 + 1) 1) = true) (h11 : ((cs ++ [AV.int IntKind.u8 (wrapA IntKind.u8 (shrN x 24))] ++ [AV.int IntKind.u8 (wrapA IntKind.u8 (shrN x 16))] ++ [AV.int IntKind.u8 (wrapA IntKind.u8 (shrN x 8))]).length.beq ((len + 1 + 1 + 1) * 1)) = true) :
    ∃ h', aCall C03a 60 (Tgt.fn 78) [AV.fsl false len cs, AV.int IntKind.u32 x] H0 = some (AV.slice (some (8, 0)) (len + 1 + 1 + 1 + 1) none, h') ∧ [8].map h'.get = [Blk.cells true 5 (cs ++ [AV.int IntKind.u8 (wrapA IntKind.u8 (shrN x 24))] ++ [AV.int IntKind.u8 (wrapA IntKind.u8 (shrN x 16))] ++ [AV.int IntKind.u8 (wrapA IntKind.u8 (shrN x 8))] ++ [AV.int IntKind.u8 (wrapA IntKind.u8 (shrN x 0))]).length (cs ++ [AV.int IntKind.u8 (wrapA IntKind.u8 (shrN x 24))] ++ [AV.int IntKind.u8 (wrapA IntKind.u8 (shrN x 16))] ++ [AV.int IntKind.u8 (wrapA IntKind.u8 (shrN x 8))] ++ [AV.int IntKind.u8 (wrapA IntKind.u8 (shrN x 0))])] :=
  call_run (q := (.y :: (.y :: (.y :: (.y :: (oc 7 (.y :: (.y :: (oc 8 (.y :: (.y :: (oc 8 (.y :: (.y :: (oc 8 (.y :: (.y :: (oc 2 [])))))))))))))))))) (c := (Cnd.tst _ true :: Cnd.tst _ true :: Cnd.tst _ true :: Cnd.tst _ true :: Cnd.tst _ true :: Cnd.tst _ true :: Cnd.tst _ true :: Cnd.tst _ true :: Cnd.tst _ true :: Cnd.tst _ true :: Cnd.tst _ true :: Cnd.tst _ true :: [])) (by kernel_rfl) ⟨h0, h1, h2, h3, h4, h5, h6, h7, h8, h9, h10, h11, trivial⟩
theorem cells_u32 (x : Nat) (hx : x < 4294967296) : [AV.int .u8 (wrapA .u8 (shrN (x : Int) 24)), AV.int .u8 (wrapA .u8 (shrN (x : Int) 16)), AV.int .u8 (wrapA .u8 (shrN (x : Int) 8)), AV.int .u8 (wrapA .u8 (shrN (x : Int) 0))] = ofBytes (putB 4 x) := by
  have h : ofBytes (putB 4 x) = [.int .u8 ((UInt8.ofNat (x / 256 ^ 3)).toNat : Int), .int .u8 ((UInt8.ofNat (x / 256 ^ 2)).toNat : Int), .int .u8 ((UInt8.ofNat (x / 256 ^ 1)).toNat : Int), .int .u8 ((UInt8.ofNat (x / 256 ^ 0)).toNat : Int)] := rfl
  rw [h]
  have s : ∀ j, wrapA .u8 (shrN (x : Int) (8 * j)) = ((UInt8.ofNat (x / 256 ^ j)).toNat : Int) := shr_byte x
  have s0 := s 0
  have s1 := s 1
  have s2 := s 2
  have s3 := s 3
  simp only [← s0, ← s1, ← s2, ← s3]
def putRu32 : RSum := RSum.nb true fun us => match us with
  | [.fsl true 0 [], .int .u32 x] => some ([ileB 0 x, iltB x 4294967296], fun n => .slice (some (n, 0)) 4 none, [.cells true 5 4 (kept (ofBytes (putB 4 x.toNat)))])
  | [.fsl false len cs, .int .u32 x] => some ([Nat.beq cs.length len, u8L cs, Nat.ble len 1000000000000, ileB 0 x, iltB x 4294967296], fun n => .slice (some (n, 0)) (len + 4) none, [.cells true 5 (len + 4) (cs ++ kept (ofBytes (putB 4 x.toNat)))])
  | _ => none
theorem putRu32_ok : RSum.Sound Try.prog tys 78 putRu32 := by
  refine RSum.sound (cx_goes _ _) all03a (RSum.nb_ok fun us c v bs hm hc => ?_)
  split at hm
  · injection hm with hm; injection hm with e1 hm; injection hm with e2 e3; rw [kept_eq] at e3; subst e1; subst e2; subst e3
    simp only [allTrue_cons] at hc
    obtain ⟨c1, c2, _⟩ := hc
    obtain ⟨x, rfl⟩ := nat_of c1
    have c2 : x < 4294967296 := lt_of c2
    obtain ⟨h', h, hb⟩ := putu32N x
    refine ⟨fun b hb => ?_, 60, h', [7], _, h, ?_, sel_one 7, rfl, fun n ρ hρ => ?_⟩
    · have : b = .cells true 5 4 (ofBytes (putB 4 x)) := by simpa using hb
      subst this
      simp only [Blk.plainOwn, ofBytes_plain, Bool.and_self]
    · rw [hb, cells_u32 x c2]; rfl
    · have := hρ 0 7 rfl
      simp only [AV.ren, Option.map_some, this, Nat.add_zero]
      exact AV.Le.refl _
  · rename_i len cs x
    injection hm with hm; injection hm with e1 hm; injection hm with e2 e3; rw [kept_eq] at e3; subst e1; subst e2; subst e3
    simp only [allTrue_cons] at hc
    obtain ⟨c1, c2, c3, c4, c5, _⟩ := hc
    have c1 := eq_of_beq' c1
    have c3 := le_of_ble' c3
    obtain ⟨l, rfl⟩ := u8L_iff.1 c2
    obtain ⟨x, rfl⟩ := nat_of c4
    have c5 : x < 4294967296 := lt_of c5
    obtain ⟨h', h, hb⟩ := putu32 x len (ofBytes l) (ofBytes_plainL l) (beq_of c1) c2 (ble_of (by omega)) (room_of (by omega) (by omega)) (beq_of (by simp only [ofBytes_length, List.length_append, List.length_cons, List.length_nil] at c1 ⊢; omega)) (room_of (by omega) (by omega)) (beq_of (by simp only [ofBytes_length, List.length_append, List.length_cons, List.length_nil] at c1 ⊢; omega)) (room_of (by omega) (by omega)) (beq_of (by simp only [ofBytes_length, List.length_append, List.length_cons, List.length_nil] at c1 ⊢; omega)) (room_of (by omega) (by omega)) (beq_of (by simp only [ofBytes_length, List.length_append, List.length_cons, List.length_nil] at c1 ⊢; omega))
    refine ⟨fun b hb => ?_, 60, h', [8], _, h, ?_, sel_one 8, rfl, fun n ρ hρ => ?_⟩
    · have : b = .cells true 5 (len + 4) (ofBytes l ++ ofBytes (putB 4 x)) := by simpa using hb
      subst this
      rw [← ofBytes_append]
      simp only [Blk.plainOwn, ofBytes_plain, Bool.and_self]
    · rw [hb]
      try simp only [List.append_assoc, List.cons_append, List.nil_append]
      rw [cells_u32 x c5, List.length_append, c1, ofBytes_length, putB_length]; rfl
    · have := hρ 0 8 rfl
      simp only [AV.ren, Option.map_some, this, Nat.add_zero]
      exact AV.Le.refl _
  · cases hm
theorem putu64N (x : Int) :
    ∃ h', aCall C03a 60 (Tgt.fn 80) [AV.fsl true 0 [], AV.int IntKind.u64 x] H0 = some (AV.slice (some (15, 0)) 8 none, h') ∧ [15].map h'.get = [Blk.cells true 5 8 [AV.int IntKind.u8 (wrapA IntKind.u8 (shrN x 56)), AV.int IntKind.u8 (wrapA IntKind.u8 (shrN x 48)), AV.int IntKind.u8 (wrapA IntKind.u8 (shrN x 40)), AV.int IntKind.u8 (wrapA IntKind.u8 (shrN x 32)), AV.int IntKind.u8 (wrapA IntKind.u8 (shrN x 24)), AV.int IntKind.u8 (wrapA IntKind.u8 (shrN x 16)), AV.int IntKind.u8 (wrapA IntKind.u8 (shrN x 8)), AV.int IntKind.u8 (wrapA IntKind.u8 (shrN x 0))]] :=
  call_run (q := (oc 80 [])) (c := ([])) (by kernel_rfl) trivial
theorem putu64 (x : Int) (len : Nat) (cs : List AV) (h0 : (AV.plainL cs) = true) (h1 : (cs.length.beq len) = true) (h2 : (u8L cs) = true) (h3 : (len.ble 1099511627776) = true) (h4 : (appRoom 1 len 1) = true) (h5 : (len.beq (len * 1)) = true) (h6 : (appRoom 1 (len + 1) 1) = true) (h7 : ((cs ++ [AV.int IntKind.u8 (wrapA IntKind.u8 (shrN x 56))]).length.beq ((len + 1) * 1)) = true) (h8 : (appRoom 1 (len + 1 + 1) 1) = true) (h9 : ((cs ++ [AV.int IntKind.u8 (wrapA IntKind.u8 (shrN x 56))] ++ [AV.int IntKind.u8 (wrapA IntKind.u8 (shrN x 48))]).length.beq ((len + 1 + 1) * 1)) = true) (h10 : (appRoom 1 (len + 1 + 1 + 1) 1) = true) (h11 : ((cs ++ [AV.int IntKind.u8 (wrapA IntKind.u8 (shrN x 56))] ++ [AV.int IntKind.u8 (wrapA IntKind.u8 (shrN x 48))] ++ [AV.int IntKind.u8 (wrapA IntKind.u8 (shrN x 40))]).length.beq ((len + 1 + 1 + 1) * 1)) = true) (h12 : (appRoom 1 (len + 1 + 1 + 1 + 1) 1) = true) (h13 : ((cs ++ [AV.int IntKind.u8 (wrapA IntKind.u8 (shrN x 56))] ++ [AV.int IntKind.u8 (wrapA IntKind.u8 (shrN x 48))] ++ [AV.int IntKind.u8 (wrapA IntKind.u8 (shrN x 40))] ++ [AV.int IntKind.u8 (wrapA IntKind.u8 (shrN x 32))]).length.beq ((len + 1 + 1 + 1 + 1) * 1)) = true) (h14 : (appRoom 1 (len + 1 + 1 + 1 + 1 + 1) 1) = true) (h15 : ((cs ++ [AV.int IntKind.u8 (wrapA IntKind.u8 (shrN x 56))] ++ [AV.int IntKind.u8 (wrapA IntKind.u8 (shrN x 48))] ++ [AV.int IntKind.u8 (wrapA IntKind.u8 (shrN x 40))] ++ [AV.int IntKind.u8 (wrapA IntKind.u8 (shrN x 32))] ++ [AV.int IntKind.u8 (wrapA IntKind.u8 (shrN x 24))]).length.beq ((len + 1 + 1 + 1 + 1 + 1) * 1)) = true) (h16 : (appRoom 1 (len + 1 + 1 + 1 + 1 + 1 + 1) 1) = true) (h17 : ((cs ++ [AV.int IntKind.u8 (wrapA IntKind.u8 (shrN x 56))] ++ [AV.int IntKind.u8 (wrapA IntKind.u8 (shrN x 48))] ++ [AV.int IntKind.u8 (wrapA IntKind.u8 (shrN x 40))] ++ [AV.int IntKind.u8 (wrapA IntKind.u8 (shrN x 32))] ++ [AV.int IntKind.u8 (wrapA IntKind.u8 (shrN x 24))] ++ [AV.int IntKind.u8 (wrapA IntKind.u8 (shrN x 16))]).length.beq ((len + 1 + 1 + 1 + 1 + 1 + 1) * 1)) = true) (h18 : (appRoom 1 (len + 1 + 1 + 1 + 1 + 1 + 1 + 1) 1) = true) (h19 : ((cs ++ [AV.int IntKind.u8 (wrapA IntKind.u8 (shrN x 56))] ++ [AV.int IntKind.u8 (wrapA IntKind.u8 (shrN x 48))] ++ [AV.int IntKind.u8 (wrapA IntKind.u8 (shrN x 40))] ++ [AV.int IntKind.u8 (wrapA IntKind.u8 (shrN x 32))] ++ [AV.int IntKind.u8 (wrapA IntKind.u8 (shrN x 24))] ++ [AV.int IntKind.u8 (wrapA IntKind.u8 (shrN x 16))] ++ [AV.int IntKind.u8 (wrapA IntKind.u8 (shrN x 8))]).length.beq ((len + 1 + 1 + 1 + 1 + 1 + 1 + 1) * 1)) = true) :
    ∃ h', aCall C03a 60 (Tgt.fn 80) [AV.fsl false len cs, AV.int IntKind.u64 x] H0 = some (AV.slice (some (16, 0)) (len + 1 + 1 + 1 + 1 + 1 + 1 + 1 + 1) none, h') ∧ [16].map h'.get = [Blk.cells true 5 (cs ++ [AV.int IntKind.u8 (wrapA IntKind.u8 (shrN x 56))] ++ [AV.int IntKind.u8 (wrapA IntKind.u8 (shrN x 48))] ++ [AV.int IntKind.u8 (wrapA IntKind.u8 (shrN x 40))] ++ [AV.int IntKind.u8 (wrapA IntKind.u8 (shrN x 32))] ++ [AV.int IntKind.u8 (wrapA IntKind.u8 (shrN x 24))] ++ [AV.int IntKind.u8 (wrapA IntKind.u8 (shrN x 16))] ++ [AV.int IntKind.u8 (wrapA IntKind.u8 (shrN x 8))] ++ [AV.int IntKind.u8 (wrapA IntKind.u8 (shrN x 0))]).length (cs ++ [AV.int IntKind.u8 (wrapA IntKind.u8 (shrN x 56))] ++ [AV.int IntKind.u8 (wrapA IntKind.u8 (shrN x 48))] ++ [AV.int IntKind.u8 (wrapA IntKind.u8 (shrN x 40))] ++ [AV.int IntKind.u8 (wrapA IntKind.u8 (shrN x 32))] ++ [AV.int IntKind.u8 (wrapA IntKind.u8 (shrN x 24))] ++ [AV.int IntKind.u8 (wrapA IntKind.u8 (shrN x 16))] ++ [AV.int IntKind.u8 (wrapA IntKind.u8 (shrN x 8))] ++ [AV.int IntKind.u8 (wrapA IntKind.u8 (shrN x 0))])] :=
  call_run (q := (.y :: (.y :: (.y :: (.y :: (oc 7 (.y :: (.y :: (oc 8 (.y :: (.y :: (oc 8 (.y :: (.y :: (oc 8 (.y :: (.y :: (oc 8 (.y :: (.y :: (oc 8 (.y :: (.y :: (oc 8 (.y :: (.y :: (oc 8 (.y :: (.y :: (oc 2 [])))))))))))))))))))))))))))))) (c := (Cnd.tst _ true :: Cnd.tst _ true :: Cnd.tst _ true :: Cnd.tst _ true :: Cnd.tst _ true :: Cnd.tst _ true :: Cnd.tst _ true :: Cnd.tst _ true :: Cnd.tst _ true :: Cnd.tst _ true :: Cnd.tst _ true :: Cnd.tst _ true :: Cnd.tst _ true :: Cnd.tst _ true :: Cnd.tst _ true :: Cnd.tst _ true :: Cnd.tst _ true :: Cnd.tst _ true :: Cnd.tst _ true :: Cnd.tst _ true :: [])) (by kernel_rfl) ⟨h0, h1, h2, h3, h4, h5, h6, h7, h8, h9, h10, h11, h12, h13, h14, h15, h16, h17, h18, h19, trivial⟩
theorem cells_u64 (x : Nat) (hx : x < 18446744073709551616) : [AV.int .u8 (wrapA .u8 (shrN (x : Int) 56)), AV.int .u8 (wrapA .u8 (shrN (x : Int) 48)), AV.int .u8 (wrapA .u8 (shrN (x : Int) 40)), AV.int .u8 (wrapA .u8 (shrN (x : Int) 32)), AV.int .u8 (wrapA .u8 (shrN (x : Int) 24)), AV.int .u8 (wrapA .u8 (shrN (x : Int) 16)), AV.int .u8 (wrapA .u8 (shrN (x : Int) 8)), AV.int .u8 (wrapA .u8 (shrN (x : Int) 0))] = ofBytes (putB 8 x) := by
  have h : ofBytes (putB 8 x) = [.int .u8 ((UInt8.ofNat (x / 256 ^ 7)).toNat : Int), .int .u8 ((UInt8.ofNat (x / 256 ^ 6)).toNat : Int), .int .u8 ((UInt8.ofNat (x / 256 ^ 5)).toNat : Int), .int .u8 ((UInt8.ofNat (x / 256 ^ 4)).toNat : Int), .int .u8 ((UInt8.ofNat (x / 256 ^ 3)).toNat : Int), .int .u8 ((UInt8.ofNat (x / 256 ^ 2)).toNat : Int), .int .u8 ((UInt8.ofNat (x / 256 ^ 1)).toNat : Int), .int .u8 ((UInt8.ofNat (x / 256 ^ 0)).toNat : Int)] := rfl
  rw [h]
  have s : ∀ j, wrapA .u8 (shrN (x : Int) (8 * j)) = ((UInt8.ofNat (x / 256 ^ j)).toNat : Int) := shr_byte x
  have s0 := s 0
  have s1 := s 1
  have s2 := s 2
  have s3 := s 3
  have s4 := s 4
  have s5 := s 5
  have s6 := s 6
  have s7 := s 7
  simp only [← s0, ← s1, ← s2, ← s3, ← s4, ← s5, ← s6, ← s7]
def putRu64 : RSum := RSum.nb true fun us => match us with
  | [.fsl true 0 [], .int .u64 x] => some ([ileB 0 x, iltB x 18446744073709551616], fun n => .slice (some (n, 0)) 8 none, [.cells true 5 8 (kept (ofBytes (putB 8 x.toNat)))])
  | [.fsl false len cs, .int .u64 x] => some ([Nat.beq cs.length len, u8L cs, Nat.ble len 1000000000000, ileB 0 x, iltB x 18446744073709551616], fun n => .slice (some (n, 0)) (len + 8) none, [.cells true 5 (len + 8) (cs ++ kept (ofBytes (putB 8 x.toNat)))])
  | _ => none
theorem putRu64_ok : RSum.Sound Try.prog tys 80 putRu64 := by
  refine RSum.sound (cx_goes _ _) all03a (RSum.nb_ok fun us c v bs hm hc => ?_)
  split at hm
  · injection hm with hm; injection hm with e1 hm; injection hm with e2 e3; rw [kept_eq] at e3; subst e1; subst e2; subst e3
    simp only [allTrue_cons] at hc
    obtain ⟨c1, c2, _⟩ := hc
    obtain ⟨x, rfl⟩ := nat_of c1
    have c2 : x < 18446744073709551616 := lt_of c2
    obtain ⟨h', h, hb⟩ := putu64N x
    refine ⟨fun b hb => ?_, 60, h', [15], _, h, ?_, sel_one 15, rfl, fun n ρ hρ => ?_⟩
    · have : b = .cells true 5 8 (ofBytes (putB 8 x)) := by simpa using hb
      subst this
      simp only [Blk.plainOwn, ofBytes_plain, Bool.and_self]
    · rw [hb, cells_u64 x c2]; rfl
    · have := hρ 0 15 rfl
      simp only [AV.ren, Option.map_some, this, Nat.add_zero]
      exact AV.Le.refl _
  · rename_i len cs x
    injection hm with hm; injection hm with e1 hm; injection hm with e2 e3; rw [kept_eq] at e3; subst e1; subst e2; subst e3
    simp only [allTrue_cons] at hc
    obtain ⟨c1, c2, c3, c4, c5, _⟩ := hc
    have c1 := eq_of_beq' c1
    have c3 := le_of_ble' c3
    obtain ⟨l, rfl⟩ := u8L_iff.1 c2
    obtain ⟨x, rfl⟩ := nat_of c4
    have c5 : x < 18446744073709551616 := lt_of c5
    obtain ⟨h', h, hb⟩ := putu64 x len (ofBytes l) (ofBytes_plainL l) (beq_of c1) c2 (ble_of (by omega)) (room_of (by omega) (by omega)) (beq_of (by simp only [ofBytes_length, List.length_append, List.length_cons, List.length_nil] at c1 ⊢; omega)) (room_of (by omega) (by omega)) (beq_of (by simp only [ofBytes_length, List.length_append, List.length_cons, List.length_nil] at c1 ⊢; omega)) (room_of (by omega) (by omega)) (beq_of (by simp only [ofBytes_length, List.length_append, List.length_cons, List.length_nil] at c1 ⊢; omega)) (room_of (by omega) (by omega)) (beq_of (by simp only [ofBytes_length, List.length_append, List.length_cons, List.length_nil] at c1 ⊢; omega)) (room_of (by omega) (by omega)) (beq_of (by simp only [ofBytes_length, List.length_append, List.length_cons, List.length_nil] at c1 ⊢; omega)) (room_of (by omega) (by omega)) (beq_of (by simp only [ofBytes_length, List.length_append, List.length_cons, List.length_nil] at c1 ⊢; omega)) (room_of (by omega) (by omega)) (beq_of (by simp only [ofBytes_length, List.length_append, List.length_cons, List.length_nil] at c1 ⊢; omega)) (room_of (by omega) (by omega)) (beq_of (by simp only [ofBytes_length, List.length_append, List.length_cons, List.length_nil] at c1 ⊢; omega))
    refine ⟨fun b hb => ?_, 60, h', [16], _, h, ?_, sel_one 16, rfl, fun n ρ hρ => ?_⟩
    · have : b = .cells true 5 (len + 8) (ofBytes l ++ ofBytes (putB 8 x)) := by simpa using hb
      subst this
      rw [← ofBytes_append]
      simp only [Blk.plainOwn, ofBytes_plain, Bool.and_self]
    · rw [hb]
      try simp only [List.append_assoc, List.cons_append, List.nil_append]
      rw [cells_u64 x c5, List.length_append, c1, ofBytes_length, putB_length]; rfl
    · have := hρ 0 16 rfl
      simp only [AV.ren, Option.map_some, this, Nat.add_zero]
      exact AV.Le.refl _
  · cases hm
end Go.Proofs.Ytecncappdnhbaaa
end
end

/- Bytes: words read off bytes; the document's writing and reading. -/
section
set_option autoImplicit false
set_option linter.unusedVariables false
set_option linter.unusedSimpArgs false
set_option maxRecDepth 100000
noncomputable section
namespace Go.Ab
namespace M
def getI (w : Nat) (cs : List AV) : Int := kept (if w ≤ cs.length then ((getN ((bytesL cs).take w) : Nat) : Int) else 0)
end M
open M
theorem getI_ofBytes (w : Nat) (l : List UInt8) : getI w (ofBytes l) = if w ≤ l.length then ((getN (l.take w) : Nat) : Int) else 0 := by
  unfold getI; rw [kept_eq, ofBytes_length, bytesL_ofBytes]
theorem or_first (b : UInt8) : orN .u64 (Int.ofNat 0) (wrapA .u64 (Int.ofNat b.toNat)) = ((b.toNat : Nat) : Int) := by
  have hb := b.toNat_lt
  have e : wrapA .u64 (Int.ofNat b.toNat) = ((b.toNat : Nat) : Int) := wrapA_nat .u64 _ (by show _ < 18446744073709551616; omega)
  rw [e]
  have := orN_nat .u64 0 b.toNat (by decide) (by show _ < 18446744073709551616; omega)
  rw [Nat.zero_or] at this
  exact this
theorem or_step (a : Nat) (b : UInt8) (h : a < 72057594037927936) : orN .u64 (shlN .u64 (a : Int) 8) (wrapA .u64 (Int.ofNat b.toNat)) = ((a * 256 + b.toNat : Nat) : Int) := by
  have hb := b.toNat_lt
  have e : wrapA .u64 (Int.ofNat b.toNat) = ((b.toNat : Nat) : Int) := wrapA_nat .u64 _ (by show _ < 18446744073709551616; omega)
  have e2 : shlN .u64 (a : Int) 8 = ((a * 256 : Nat) : Int) := by
    rw [shlN_eq]
    have : (a : Int) * 2 ^ 8 = ((a * 256 : Nat) : Int) := by simp
    rw [this]; exact wrap_small .u64 _ (by show _ < 18446744073709551616; omega)
  rw [e, e2, orN_nat .u64 _ _ (by show _ < 18446744073709551616; omega) (by show _ < 18446744073709551616; omega)]
  congr 1
  have := Nat.shiftLeft_add_eq_or_of_lt (i := 8) (b := b.toNat) (by omega) a
  rw [Nat.shiftLeft_eq] at this
  exact this.symm
theorem add_first (b : UInt8) : wrapA .u64 ((Int.ofNat 0).add (wrapA .u64 (Int.ofNat b.toNat))) = ((b.toNat : Nat) : Int) := by
  have hb := b.toNat_lt
  have e : wrapA .u64 (Int.ofNat b.toNat) = ((b.toNat : Nat) : Int) := wrapA_nat .u64 _ (by show _ < 18446744073709551616; omega)
  rw [e]
  have : (Int.ofNat 0).add ((b.toNat : Nat) : Int) = ((b.toNat : Nat) : Int) := by show (0 : Int) + _ = _; omega
  rw [this]; exact e
theorem add_step (a : Nat) (b : UInt8) (h : a < 72057594037927936) : wrapA .u64 ((wrapA .u64 ((a : Int).mul (Int.ofNat 256))).add (wrapA .u64 (Int.ofNat b.toNat))) = ((a * 256 + b.toNat : Nat) : Int) := by
  have hb := b.toNat_lt
  have e : wrapA .u64 (Int.ofNat b.toNat) = ((b.toNat : Nat) : Int) := wrapA_nat .u64 _ (by show _ < 18446744073709551616; omega)
  have e1 : (a : Int).mul (Int.ofNat 256) = ((a * 256 : Nat) : Int) := by show (a : Int) * ((256 : Nat) : Int) = _; rw [Int.natCast_mul]
  rw [e, e1, wrapA_nat .u64 (a * 256) (by show _ < 18446744073709551616; omega)]
  have : Int.add ((a * 256 : Nat) : Int) ((b.toNat : Nat) : Int) = ((a * 256 + b.toNat : Nat) : Int) := by show ((a * 256 : Nat) : Int) + ((b.toNat : Nat) : Int) = _; rw [Int.natCast_add]
  rw [this]; exact wrapA_nat .u64 _ (by show _ < 18446744073709551616; omega)
theorem div_step (y : Nat) (h : y < 18446744073709551616) : wrapA .u64 ((y : Int).tdiv (Int.ofNat 256)) = ((y / 256 : Nat) : Int) := by
  have e : (y : Int).tdiv (Int.ofNat 256) = ((y / 256 : Nat) : Int) := rfl
  rw [e]; exact wrapA_nat .u64 _ (by show _ < 18446744073709551616; omega)
theorem low_byte (y : Nat) : wrapA .u8 ((y : Int).tmod (Int.ofNat 256)) = ((UInt8.ofNat y).toNat : Int) := by
  have e : (y : Int).tmod (Int.ofNat 256) = ((y % 256 : Nat) : Int) := rfl
  have h : (UInt8.ofNat y).toNat = y % 256 := by simp
  rw [e, h]; exact wrapA_nat .u8 _ (Nat.mod_lt _ (by decide))
end Go.Ab
namespace Go.Proofs.Ytecncappdnhbaaa
open Go.Ab.M Go.Ab Go
theorem getu16A (nl : Bool) (len : Nat) (l : List UInt8) (h0 : (iltB (Int.ofNat len) (Int.ofNat 2)) = true) :
    ∃ h', aCall C01 60 (Tgt.fn 77) [AV.fsl nl len (ofBytes l)] H0 = some (AV.tuple [AV.int IntKind.u16 (Int.ofNat 0), AV.bool false], h') ∧ [].map h'.get = [] :=
  call_run (q := (oc 1 (.y :: []))) (c := (Cnd.tst _ true :: [])) (by kernel_rfl) ⟨h0, trivial⟩
theorem getu16B (nl : Bool) (len : Nat) (b0 : UInt8) (b1 : UInt8) (cs : List AV) (h0 : (iltB (Int.ofNat len) (Int.ofNat 2)) = false) (h1 : ((AV.int IntKind.u8 (Int.ofNat b0.toNat) :: AV.int IntKind.u8 (Int.ofNat b1.toNat) :: cs).length.beq (len.mul 1)) = true) (h2 : (Nat.ble 2 len) = true) :
    ∃ h', aCall C01 60 (Tgt.fn 77) [AV.fsl nl len (AV.int IntKind.u8 (Int.ofNat b0.toNat) :: AV.int IntKind.u8 (Int.ofNat b1.toNat) :: cs)] H0 = some (AV.tuple [AV.int IntKind.u16 (wrapA IntKind.u16 (orN IntKind.u64 (shlN IntKind.u64 (orN IntKind.u64 (Int.ofNat 0) (wrapA IntKind.u64 (AV.int IntKind.u8 (Int.ofNat b0.toNat)).intOf)) 8) (wrapA IntKind.u64 (AV.int IntKind.u8 (Int.ofNat b1.toNat)).intOf))), AV.bool true], h') ∧ [].map h'.get = [] :=
  call_run (q := (oc 1 (.z :: (.y :: (oc 1 (.y :: (oc 15 []))))))) (c := (Cnd.tst _ false :: Cnd.tst _ true :: Cnd.tst _ true :: [])) (by kernel_rfl) ⟨h0, h1, h2, trivial⟩
def getRu16 : RSum := RSum.pl true fun us => match us with
  | [.fsl nl len cs] => some ([Nat.beq cs.length len, u8L cs], .tuple [.int .u16 (getI 2 cs), .bool (Nat.ble 2 len)])
  | _ => none
theorem getRu16_ok : RSum.Sound Try.prog tys 77 getRu16 := by
  refine RSum.sound (cx_goes _ _) all01 (RSum.pl_ok fun us c v hm hc => ?_)
  split at hm
  · rename_i nl len cs
    injection hm with hm; injection hm with e1 e2; subst e1; subst e2
    simp only [allTrue_cons] at hc
    obtain ⟨c1, c2, _⟩ := hc
    have c1 := eq_of_beq' c1
    obtain ⟨l, rfl⟩ := u8L_iff.1 c2
    rw [ofBytes_length] at c1
    refine ⟨rfl, 60, ?_⟩
    rw [getI_ofBytes]
    by_cases hl : 2 ≤ l.length
    · rw [if_pos hl, ble_of (by omega)]
      have hil : iltB (Int.ofNat len) (Int.ofNat 2) = false := by rw [iltB_eq]; exact decide_eq_false (by show ¬ (len : Int) < ((2 : Nat) : Int); omega)
      rcases l with _ | ⟨b0, l⟩
      · simp at hl; try omega
      rcases l with _ | ⟨b1, l⟩
      · simp at hl; try omega
      obtain ⟨h', h, _⟩ := getu16B nl len b0 b1 (ofBytes l) hil (beq_of1 (by simp only [List.length_cons, ofBytes_length] at c1 ⊢; omega)) (ble_of (by simp only [List.length_cons] at c1; omega))
      have q0 := b0.toNat_lt; have q1 := b1.toNat_lt;
      refine ⟨h', ?_⟩
      refine Eq.trans h ?_
      simp only [AV.intOf]
      rw [or_first b0, or_step (b0.toNat) b1 (by omega), wrapA_nat .u16 _ (by show _ < 65536; omega)]
      have hg : getN (List.take 2 (b0 :: b1 :: l)) = (b0.toNat * 256 + b1.toNat) := by simp [getN]
      rw [hg]
    · rw [if_neg hl]
      obtain ⟨h', h, _⟩ := getu16A nl len (ofBytes l |> fun _ => l) (by rw [iltB_eq]; exact decide_eq_true (by show (len : Int) < ((2 : Nat) : Int); omega))
      have : Nat.ble 2 len = false := by rw [nble]; exact decide_eq_false (by omega)
      rw [this]; exact ⟨h', h⟩
  · cases hm
theorem getu32A (nl : Bool) (len : Nat) (l : List UInt8) (h0 : (iltB (Int.ofNat len) (Int.ofNat 4)) = true) :
    ∃ h', aCall C01 60 (Tgt.fn 79) [AV.fsl nl len (ofBytes l)] H0 = some (AV.tuple [AV.int IntKind.u32 (Int.ofNat 0), AV.bool false], h') ∧ [].map h'.get = [] :=
  call_run (q := (oc 1 (.y :: []))) (c := (Cnd.tst _ true :: [])) (by kernel_rfl) ⟨h0, trivial⟩
theorem getu32B (nl : Bool) (len : Nat) (b0 : UInt8) (b1 : UInt8) (b2 : UInt8) (b3 : UInt8) (cs : List AV) (h0 : (iltB (Int.ofNat len) (Int.ofNat 4)) = false) (h1 : ((AV.int IntKind.u8 (Int.ofNat b0.toNat) :: AV.int IntKind.u8 (Int.ofNat b1.toNat) :: AV.int IntKind.u8 (Int.ofNat b2.toNat) :: AV.int IntKind.u8 (Int.ofNat b3.toNat) :: cs).length.beq (len.mul 1)) = true) (h2 : (Nat.ble 4 len) = true) :
    ∃ h', aCall C01 60 (Tgt.fn 79) [AV.fsl nl len (AV.int IntKind.u8 (Int.ofNat b0.toNat) :: AV.int IntKind.u8 (Int.ofNat b1.toNat) :: AV.int IntKind.u8 (Int.ofNat b2.toNat) :: AV.int IntKind.u8 (Int.ofNat b3.toNat) :: cs)] H0 = some (AV.tuple [AV.int IntKind.u32 (wrapA IntKind.u32 (orN IntKind.u64 (shlN IntKind.u64 (orN IntKind.u64 (shlN IntKind.u64 (orN IntKind.u64 (shlN IntKind.u64 (orN IntKind.u64 (Int.ofNat 0) (wrapA IntKind.u64 (AV.int IntKind.u8 (Int.ofNat b0.toNat)).intOf)) 8) (wrapA IntKind.u64 (AV.int IntKind.u8 (Int.ofNat b1.toNat)).intOf)) 8) (wrapA IntKind.u64 (AV.int IntKind.u8 (Int.ofNat b2.toNat)).intOf)) 8) (wrapA IntKind.u64 (AV.int IntKind.u8 (Int.ofNat b3.toNat)).intOf))), AV.bool true], h') ∧ [].map h'.get = [] :=
  call_run (q := (oc 1 (.z :: (.y :: (oc 1 (.y :: (oc 29 []))))))) (c := (Cnd.tst _ false :: Cnd.tst _ true :: Cnd.tst _ true :: [])) (by kernel_rfl) ⟨h0, h1, h2, trivial⟩
def getRu32 : RSum := RSum.pl true fun us => match us with
  | [.fsl nl len cs] => some ([Nat.beq cs.length len, u8L cs], .tuple [.int .u32 (getI 4 cs), .bool (Nat.ble 4 len)])
  | _ => none
theorem getRu32_ok : RSum.Sound Try.prog tys 79 getRu32 := by
  refine RSum.sound (cx_goes _ _) all01 (RSum.pl_ok fun us c v hm hc => ?_)
  split at hm
  · rename_i nl len cs
    injection hm with hm; injection hm with e1 e2; subst e1; subst e2
    simp only [allTrue_cons] at hc
    obtain ⟨c1, c2, _⟩ := hc
    have c1 := eq_of_beq' c1
    obtain ⟨l, rfl⟩ := u8L_iff.1 c2
    rw [ofBytes_length] at c1
    refine ⟨rfl, 60, ?_⟩
    rw [getI_ofBytes]
    by_cases hl : 4 ≤ l.length
    · rw [if_pos hl, ble_of (by omega)]
      have hil : iltB (Int.ofNat len) (Int.ofNat 4) = false := by rw [iltB_eq]; exact decide_eq_false (by show ¬ (len : Int) < ((4 : Nat) : Int); omega)
      rcases l with _ | ⟨b0, l⟩
      · simp at hl; try omega
      rcases l with _ | ⟨b1, l⟩
      · simp at hl; try omega
      rcases l with _ | ⟨b2, l⟩
      · simp at hl; try omega
      rcases l with _ | ⟨b3, l⟩
      · simp at hl; try omega
      obtain ⟨h', h, _⟩ := getu32B nl len b0 b1 b2 b3 (ofBytes l) hil (beq_of1 (by simp only [List.length_cons, ofBytes_length] at c1 ⊢; omega)) (ble_of (by simp only [List.length_cons] at c1; omega))
      have q0 := b0.toNat_lt; have q1 := b1.toNat_lt; have q2 := b2.toNat_lt; have q3 := b3.toNat_lt;
      refine ⟨h', ?_⟩
      refine Eq.trans h ?_
      simp only [AV.intOf]
      rw [or_first b0, or_step (b0.toNat) b1 (by omega), or_step ((b0.toNat * 256 + b1.toNat)) b2 (by omega), or_step (((b0.toNat * 256 + b1.toNat) * 256 + b2.toNat)) b3 (by omega), wrapA_nat .u32 _ (by show _ < 4294967296; omega)]
      have hg : getN (List.take 4 (b0 :: b1 :: b2 :: b3 :: l)) = (((b0.toNat * 256 + b1.toNat) * 256 + b2.toNat) * 256 + b3.toNat) := by simp [getN]
      rw [hg]
    · rw [if_neg hl]
      obtain ⟨h', h, _⟩ := getu32A nl len (ofBytes l |> fun _ => l) (by rw [iltB_eq]; exact decide_eq_true (by show (len : Int) < ((4 : Nat) : Int); omega))
      have : Nat.ble 4 len = false := by rw [nble]; exact decide_eq_false (by omega)
      rw [this]; exact ⟨h', h⟩
  · cases hm
theorem getu64A (nl : Bool) (len : Nat) (l : List UInt8) (h0 : (iltB (Int.ofNat len) (Int.ofNat 8)) = true) :
    ∃ h', aCall C01 60 (Tgt.fn 81) [AV.fsl nl len (ofBytes l)] H0 = some (AV.tuple [AV.int IntKind.u64 (Int.ofNat 0), AV.bool false], h') ∧ [].map h'.get = [] :=
  call_run (q := (oc 1 (.y :: []))) (c := (Cnd.tst _ true :: [])) (by kernel_rfl) ⟨h0, trivial⟩
theorem getu64B (nl : Bool) (len : Nat) (b0 : UInt8) (b1 : UInt8) (b2 : UInt8) (b3 : UInt8) (b4 : UInt8) (b5 : UInt8) (b6 : UInt8) (b7 : UInt8) (cs : List AV) (h0 : (iltB (Int.ofNat len) (Int.ofNat 8)) = false) (h1 : ((AV.int IntKind.u8 (Int.ofNat b0.toNat) :: AV.int IntKind.u8 (Int.ofNat b1.toNat) :: AV.int IntKind.u8 (Int.ofNat b2.toNat) :: AV.int IntKind.u8 (Int.ofNat b3.toNat) :: AV.int IntKind.u8 (Int.ofNat b4.toNat) :: AV.int IntKind.u8 (Int.ofNat b5.toNat) :: AV.int IntKind.u8 (Int.ofNat b6.toNat) :: AV.int IntKind.u8 (Int.ofNat b7.toNat) :: cs).length.beq (len.mul 1)) = true) (h2 : (Nat.ble 8 len) = true) :
    ∃ h', aCall C01 60 (Tgt.fn 81) [AV.fsl nl len (AV.int IntKind.u8 (Int.ofNat b0.toNat) :: AV.int IntKind.u8 (Int.ofNat b1.toNat) :: AV.int IntKind.u8 (Int.ofNat b2.toNat) :: AV.int IntKind.u8 (Int.ofNat b3.toNat) :: AV.int IntKind.u8 (Int.ofNat b4.toNat) :: AV.int IntKind.u8 (Int.ofNat b5.toNat) :: AV.int IntKind.u8 (Int.ofNat b6.toNat) :: AV.int IntKind.u8 (Int.ofNat b7.toNat) :: cs)] H0 = some (AV.tuple [AV.int IntKind.u64 (orN IntKind.u64 (shlN IntKind.u64 (orN IntKind.u64 (shlN IntKind.u64 (orN IntKind.u64 (shlN IntKind.u64 (orN IntKind.u64 (shlN IntKind.u64 (orN IntKind.u64 (shlN IntKind.u64 (orN IntKind.u64 (shlN IntKind.u64 (orN IntKind.u64 (shlN IntKind.u64 (orN IntKind.u64 (Int.ofNat 0) (wrapA IntKind.u64 (AV.int IntKind.u8 (Int.ofNat b0.toNat)).intOf)) 8) (wrapA IntKind.u64 (AV.int IntKind.u8 (Int.ofNat b1.toNat)).intOf)) 8) (wrapA IntKind.u64 (AV.int IntKind.u8 (Int.ofNat b2.toNat)).intOf)) 8) (wrapA IntKind.u64 (AV.int IntKind.u8 (Int.ofNat b3.toNat)).intOf)) 8) (wrapA IntKind.u64 (AV.int IntKind.u8 (Int.ofNat b4.toNat)).intOf)) 8) (wrapA IntKind.u64 (AV.int IntKind.u8 (Int.ofNat b5.toNat)).intOf)) 8) (wrapA IntKind.u64 (AV.int IntKind.u8 (Int.ofNat b6.toNat)).intOf)) 8) (wrapA IntKind.u64 (AV.int IntKind.u8 (Int.ofNat b7.toNat)).intOf)), AV.bool true], h') ∧ [].map h'.get = [] :=
  call_run (q := (oc 1 (.z :: (.y :: (oc 1 (.y :: (oc 57 []))))))) (c := (Cnd.tst _ false :: Cnd.tst _ true :: Cnd.tst _ true :: [])) (by kernel_rfl) ⟨h0, h1, h2, trivial⟩
def getRu64 : RSum := RSum.pl true fun us => match us with
  | [.fsl nl len cs] => some ([Nat.beq cs.length len, u8L cs], .tuple [.int .u64 (getI 8 cs), .bool (Nat.ble 8 len)])
  | _ => none
theorem getRu64_ok : RSum.Sound Try.prog tys 81 getRu64 := by
  refine RSum.sound (cx_goes _ _) all01 (RSum.pl_ok fun us c v hm hc => ?_)
  split at hm
  · rename_i nl len cs
    injection hm with hm; injection hm with e1 e2; subst e1; subst e2
    simp only [allTrue_cons] at hc
    obtain ⟨c1, c2, _⟩ := hc
    have c1 := eq_of_beq' c1
    obtain ⟨l, rfl⟩ := u8L_iff.1 c2
    rw [ofBytes_length] at c1
    refine ⟨rfl, 60, ?_⟩
    rw [getI_ofBytes]
    by_cases hl : 8 ≤ l.length
    · rw [if_pos hl, ble_of (by omega)]
      have hil : iltB (Int.ofNat len) (Int.ofNat 8) = false := by rw [iltB_eq]; exact decide_eq_false (by show ¬ (len : Int) < ((8 : Nat) : Int); omega)
      rcases l with _ | ⟨b0, l⟩
      · simp at hl; try omega
      rcases l with _ | ⟨b1, l⟩
      · simp at hl; try omega
      rcases l with _ | ⟨b2, l⟩
      · simp at hl; try omega
      rcases l with _ | ⟨b3, l⟩
      · simp at hl; try omega
      rcases l with _ | ⟨b4, l⟩
      · simp at hl; try omega
      rcases l with _ | ⟨b5, l⟩
      · simp at hl; try omega
      rcases l with _ | ⟨b6, l⟩
      · simp at hl; try omega
      rcases l with _ | ⟨b7, l⟩
      · simp at hl; try omega
      obtain ⟨h', h, _⟩ := getu64B nl len b0 b1 b2 b3 b4 b5 b6 b7 (ofBytes l) hil (beq_of1 (by simp only [List.length_cons, ofBytes_length] at c1 ⊢; omega)) (ble_of (by simp only [List.length_cons] at c1; omega))
      have q0 := b0.toNat_lt; have q1 := b1.toNat_lt; have q2 := b2.toNat_lt; have q3 := b3.toNat_lt; have q4 := b4.toNat_lt; have q5 := b5.toNat_lt; have q6 := b6.toNat_lt; have q7 := b7.toNat_lt;
      refine ⟨h', ?_⟩
      refine Eq.trans h ?_
      simp only [AV.intOf]
      rw [or_first b0, or_step (b0.toNat) b1 (by omega), or_step ((b0.toNat * 256 + b1.toNat)) b2 (by omega), or_step (((b0.toNat * 256 + b1.toNat) * 256 + b2.toNat)) b3 (by omega), or_step ((((b0.toNat * 256 + b1.toNat) * 256 + b2.toNat) * 256 + b3.toNat)) b4 (by omega), or_step (((((b0.toNat * 256 + b1.toNat) * 256 + b2.toNat) * 256 + b3.toNat) * 256 + b4.toNat)) b5 (by omega), or_step ((((((b0.toNat * 256 + b1.toNat) * 256 + b2.toNat) * 256 + b3.toNat) * 256 + b4.toNat) * 256 + b5.toNat)) b6 (by omega), or_step (((((((b0.toNat * 256 + b1.toNat) * 256 + b2.toNat) * 256 + b3.toNat) * 256 + b4.toNat) * 256 + b5.toNat) * 256 + b6.toNat)) b7 (by omega)]
      have hg : getN (List.take 8 (b0 :: b1 :: b2 :: b3 :: b4 :: b5 :: b6 :: b7 :: l)) = (((((((b0.toNat * 256 + b1.toNat) * 256 + b2.toNat) * 256 + b3.toNat) * 256 + b4.toNat) * 256 + b5.toNat) * 256 + b6.toNat) * 256 + b7.toNat) := by simp [getN]
      rw [hg]
    · rw [if_neg hl]
      obtain ⟨h', h, _⟩ := getu64A nl len (ofBytes l |> fun _ => l) (by rw [iltB_eq]; exact decide_eq_true (by show (len : Int) < ((8 : Nat) : Int); omega))
      have : Nat.ble 8 len = false := by rw [nble]; exact decide_eq_false (by omega)
      rw [this]; exact ⟨h', h⟩
  · cases hm
def isW (w : Nat) : Bool := Nat.beq w 1 || Nat.beq w 2 || Nat.beq w 4 || Nat.beq w 8
theorem isW_cases {w : Nat} (h : isW w = true) : w = 1 ∨ w = 2 ∨ w = 4 ∨ w = 8 := by
  simp only [isW, nbeq, Bool.or_eq_true, decide_eq_true_eq] at h; omega
theorem rget1A (nl : Bool) (len : Nat) (l : List UInt8) (h0 : (iltB (Int.ofNat len) (Int.ofNat 1)) = true) :
    ∃ h', aCall C01 60 (Tgt.fn 76) [AV.fsl nl len (ofBytes l), AV.int IntKind.i64 (Int.ofNat 1)] H0 = some (AV.tuple [AV.int IntKind.u64 (Int.ofNat 0), AV.bool false], h') ∧ [].map h'.get = [] :=
  call_run (q := (.y :: [])) (c := (Cnd.tst _ true :: [])) (by kernel_rfl) ⟨h0, trivial⟩
theorem rget1B (nl : Bool) (len : Nat) (b0 : UInt8) (cs : List AV) (h0 : (iltB (Int.ofNat len) (Int.ofNat 1)) = false) (h1 : (Nat.ble 1 len) = true) (h2 : ((AV.int IntKind.u8 (Int.ofNat b0.toNat) :: cs).length.beq (len.mul 1)) = true) :
    ∃ h', aCall C01 60 (Tgt.fn 76) [AV.fsl nl len (AV.int IntKind.u8 (Int.ofNat b0.toNat) :: cs), AV.int IntKind.i64 (Int.ofNat 1)] H0 = some (AV.tuple [AV.int IntKind.u64 (wrapA IntKind.u64 ((Int.ofNat 0).add (wrapA IntKind.u64 (AV.int IntKind.u8 (Int.ofNat b0.toNat)).intOf))), AV.bool true], h') ∧ [].map h'.get = [] :=
  call_run (q := (.z :: (oc 2 (.y :: (.y :: (oc 3 [])))))) (c := (Cnd.tst _ false :: Cnd.tst _ true :: Cnd.tst _ true :: [])) (by kernel_rfl) ⟨h0, h1, h2, trivial⟩
theorem rput1 (x : Int) :
    ∃ h', aCall C01 60 (Tgt.fn 49) [AV.int IntKind.u64 x, AV.int IntKind.i64 (Int.ofNat 1)] H0 = some (AV.slice (some (0, 0)) 1 (some 1), h') ∧ [0].map h'.get = [Blk.cells true 5 1 [AV.int IntKind.u8 (wrapA IntKind.u8 (x.tmod (Int.ofNat 256)))]] :=
  call_run (q := (oc 13 [])) (c := ([])) (by kernel_rfl) trivial
theorem rget2A (nl : Bool) (len : Nat) (l : List UInt8) (h0 : (iltB (Int.ofNat len) (Int.ofNat 2)) = true) :
    ∃ h', aCall C01 60 (Tgt.fn 76) [AV.fsl nl len (ofBytes l), AV.int IntKind.i64 (Int.ofNat 2)] H0 = some (AV.tuple [AV.int IntKind.u64 (Int.ofNat 0), AV.bool false], h') ∧ [].map h'.get = [] :=
  call_run (q := (.y :: [])) (c := (Cnd.tst _ true :: [])) (by kernel_rfl) ⟨h0, trivial⟩
theorem rget2B (nl : Bool) (len : Nat) (b0 : UInt8) (b1 : UInt8) (cs : List AV) (h0 : (iltB (Int.ofNat len) (Int.ofNat 2)) = false) (h1 : (Nat.ble 1 len) = true) (h2 : ((AV.int IntKind.u8 (Int.ofNat b0.toNat) :: AV.int IntKind.u8 (Int.ofNat b1.toNat) :: cs).length.beq (len.mul 1)) = true) (h3 : (Nat.ble 2 len) = true) :
    ∃ h', aCall C01 60 (Tgt.fn 76) [AV.fsl nl len (AV.int IntKind.u8 (Int.ofNat b0.toNat) :: AV.int IntKind.u8 (Int.ofNat b1.toNat) :: cs), AV.int IntKind.i64 (Int.ofNat 2)] H0 = some (AV.tuple [AV.int IntKind.u64 (wrapA IntKind.u64 ((wrapA IntKind.u64 ((wrapA IntKind.u64 ((Int.ofNat 0).add (wrapA IntKind.u64 (AV.int IntKind.u8 (Int.ofNat b0.toNat)).intOf))).mul (Int.ofNat 256))).add (wrapA IntKind.u64 (AV.int IntKind.u8 (Int.ofNat b1.toNat)).intOf))), AV.bool true], h') ∧ [].map h'.get = [] :=
  call_run (q := (.z :: (oc 2 (.y :: (.y :: (oc 4 (.y :: (.y :: (oc 3 []))))))))) (c := (Cnd.tst _ false :: Cnd.tst _ true :: Cnd.tst _ true :: Cnd.tst _ true :: Cnd.tst _ true :: [])) (by kernel_rfl) ⟨h0, h1, h2, h3, h2, trivial⟩
theorem rput2 (x : Int) :
    ∃ h', aCall C01 60 (Tgt.fn 49) [AV.int IntKind.u64 x, AV.int IntKind.i64 (Int.ofNat 2)] H0 = some (AV.slice (some (0, 0)) 2 (some 2), h') ∧ [0].map h'.get = [Blk.cells true 5 2 [AV.int IntKind.u8 (wrapA IntKind.u8 ((wrapA IntKind.u64 (x.tdiv (Int.ofNat 256))).tmod (Int.ofNat 256))), AV.int IntKind.u8 (wrapA IntKind.u8 (x.tmod (Int.ofNat 256)))]] :=
  call_run (q := (oc 21 [])) (c := ([])) (by kernel_rfl) trivial
theorem rget4A (nl : Bool) (len : Nat) (l : List UInt8) (h0 : (iltB (Int.ofNat len) (Int.ofNat 4)) = true) :
    ∃ h', aCall C01 60 (Tgt.fn 76) [AV.fsl nl len (ofBytes l), AV.int IntKind.i64 (Int.ofNat 4)] H0 = some (AV.tuple [AV.int IntKind.u64 (Int.ofNat 0), AV.bool false], h') ∧ [].map h'.get = [] :=
  call_run (q := (.y :: [])) (c := (Cnd.tst _ true :: [])) (by kernel_rfl) ⟨h0, trivial⟩
theorem rget4B (nl : Bool) (len : Nat) (b0 : UInt8) (b1 : UInt8) (b2 : UInt8) (b3 : UInt8) (cs : List AV) (h0 : (iltB (Int.ofNat len) (Int.ofNat 4)) = false) (h1 : (Nat.ble 1 len) = true) (h2 : ((AV.int IntKind.u8 (Int.ofNat b0.toNat) :: AV.int IntKind.u8 (Int.ofNat b1.toNat) :: AV.int IntKind.u8 (Int.ofNat b2.toNat) :: AV.int IntKind.u8 (Int.ofNat b3.toNat) :: cs).length.beq (len.mul 1)) = true) (h3 : (Nat.ble 2 len) = true) (h4 : (Nat.ble 3 len) = true) (h5 : (Nat.ble 4 len) = true) :
    ∃ h', aCall C01 60 (Tgt.fn 76) [AV.fsl nl len (AV.int IntKind.u8 (Int.ofNat b0.toNat) :: AV.int IntKind.u8 (Int.ofNat b1.toNat) :: AV.int IntKind.u8 (Int.ofNat b2.toNat) :: AV.int IntKind.u8 (Int.ofNat b3.toNat) :: cs), AV.int IntKind.i64 (Int.ofNat 4)] H0 = some (AV.tuple [AV.int IntKind.u64 (wrapA IntKind.u64 ((wrapA IntKind.u64 ((wrapA IntKind.u64 ((wrapA IntKind.u64 ((wrapA IntKind.u64 ((wrapA IntKind.u64 ((wrapA IntKind.u64 ((Int.ofNat 0).add (wrapA IntKind.u64 (AV.int IntKind.u8 (Int.ofNat b0.toNat)).intOf))).mul (Int.ofNat 256))).add (wrapA IntKind.u64 (AV.int IntKind.u8 (Int.ofNat b1.toNat)).intOf))).mul (Int.ofNat 256))).add (wrapA IntKind.u64 (AV.int IntKind.u8 (Int.ofNat b2.toNat)).intOf))).mul (Int.ofNat 256))).add (wrapA IntKind.u64 (AV.int IntKind.u8 (Int.ofNat b3.toNat)).intOf))), AV.bool true], h') ∧ [].map h'.get = [] :=
  call_run (q := (.z :: (oc 2 (.y :: (.y :: (oc 4 (.y :: (.y :: (oc 4 (.y :: (.y :: (oc 4 (.y :: (.y :: (oc 3 []))))))))))))))) (c := (Cnd.tst _ false :: Cnd.tst _ true :: Cnd.tst _ true :: Cnd.tst _ true :: Cnd.tst _ true :: Cnd.tst _ true :: Cnd.tst _ true :: Cnd.tst _ true :: Cnd.tst _ true :: [])) (by kernel_rfl) ⟨h0, h1, h2, h3, h2, h4, h2, h5, h2, trivial⟩
theorem rput4 (x : Int) :
    ∃ h', aCall C01 60 (Tgt.fn 49) [AV.int IntKind.u64 x, AV.int IntKind.i64 (Int.ofNat 4)] H0 = some (AV.slice (some (0, 0)) 4 (some 4), h') ∧ [0].map h'.get = [Blk.cells true 5 4 [AV.int IntKind.u8 (wrapA IntKind.u8 ((wrapA IntKind.u64 ((wrapA IntKind.u64 ((wrapA IntKind.u64 (x.tdiv (Int.ofNat 256))).tdiv (Int.ofNat 256))).tdiv (Int.ofNat 256))).tmod (Int.ofNat 256))), AV.int IntKind.u8 (wrapA IntKind.u8 ((wrapA IntKind.u64 ((wrapA IntKind.u64 (x.tdiv (Int.ofNat 256))).tdiv (Int.ofNat 256))).tmod (Int.ofNat 256))), AV.int IntKind.u8 (wrapA IntKind.u8 ((wrapA IntKind.u64 (x.tdiv (Int.ofNat 256))).tmod (Int.ofNat 256))), AV.int IntKind.u8 (wrapA IntKind.u8 (x.tmod (Int.ofNat 256)))]] :=
  call_run (q := (oc 37 [])) (c := ([])) (by kernel_rfl) trivial
theorem rget8A (nl : Bool) (len : Nat) (l : List UInt8) (h0 : (iltB (Int.ofNat len) (Int.ofNat 8)) = true) :
    ∃ h', aCall C01 60 (Tgt.fn 76) [AV.fsl nl len (ofBytes l), AV.int IntKind.i64 (Int.ofNat 8)] H0 = some (AV.tuple [AV.int IntKind.u64 (Int.ofNat 0), AV.bool false], h') ∧ [].map h'.get = [] :=
  call_run (q := (.y :: [])) (c := (Cnd.tst _ true :: [])) (by kernel_rfl) ⟨h0, trivial⟩
theorem rget8B (nl : Bool) (len : Nat) (b0 : UInt8) (b1 : UInt8) (b2 : UInt8) (b3 : UInt8) (b4 : UInt8) (b5 : UInt8) (b6 : UInt8) (b7 : UInt8) (cs : List AV) (h0 : (iltB (Int.ofNat len) (Int.ofNat 8)) = false) (h1 : (Nat.ble 1 len) = true) (h2 : ((AV.int IntKind.u8 (Int.ofNat b0.toNat) :: AV.int IntKind.u8 (Int.ofNat b1.toNat) :: AV.int IntKind.u8 (Int.ofNat b2.toNat) :: AV.int IntKind.u8 (Int.ofNat b3.toNat) :: AV.int IntKind.u8 (Int.ofNat b4.toNat) :: AV.int IntKind.u8 (Int.ofNat b5.toNat) :: AV.int IntKind.u8 (Int.ofNat b6.toNat) :: AV.int IntKind.u8 (Int.ofNat b7.toNat) :: cs).length.beq (len.mul 1)) = true) (h3 : (Nat.ble 2 len) = true) (h4 : (Nat.ble 3 len) = true) (h5 : (Nat.ble 4 len) = true) (h6 : (Nat.ble 5 len) = true) (h7 : (Nat.ble 6 len) = true) (h8 : (Nat.ble 7 len) = true) (h9 : (Nat.ble 8 len) = true) :
    ∃ h', aCall C01 60 (Tgt.fn 76) [AV.fsl nl len (AV.int IntKind.u8 (Int.ofNat b0.toNat) :: AV.int IntKind.u8 (Int.ofNat b1.toNat) :: AV.int IntKind.u8 (Int.ofNat b2.toNat) :: AV.int IntKind.u8 (Int.ofNat b3.toNat) :: AV.int IntKind.u8 (Int.ofNat b4.toNat) :: AV.int IntKind.u8 (Int.ofNat b5.toNat) :: AV.int IntKind.u8 (Int.ofNat b6.toNat) :: AV.int IntKind.u8 (Int.ofNat b7.toNat) :: cs), AV.int IntKind.i64 (Int.ofNat 8)] H0 = some (AV.tuple [AV.int IntKind.u64 (wrapA IntKind.u64 ((wrapA IntKind.u64 ((wrapA IntKind.u64 ((wrapA IntKind.u64 ((wrapA IntKind.u64 ((wrapA IntKind.u64 ((wrapA IntKind.u64 ((wrapA IntKind.u64 ((wrapA IntKind.u64 ((wrapA IntKind.u64 ((wrapA IntKind.u64 ((wrapA IntKind.u64 ((wrapA IntKind.u64 ((wrapA IntKind.u64 ((wrapA IntKind.u64 ((Int.ofNat 0).add (wrapA IntKind.u64 (AV.int IntKind.u8 (Int.ofNat b0.toNat)).intOf))).mul (Int.ofNat 256))).add (wrapA IntKind.u64 (AV.int IntKind.u8 (Int.ofNat b1.toNat)).intOf))).mul (Int.ofNat 256))).add (wrapA IntKind.u64 (AV.int IntKind.u8 (Int.ofNat b2.toNat)).intOf))).mul (Int.ofNat 256))).add (wrapA IntKind.u64 (AV.int IntKind.u8 (Int.ofNat b3.toNat)).intOf))).mul (Int.ofNat 256))).add (wrapA IntKind.u64 (AV.int IntKind.u8 (Int.ofNat b4.toNat)).intOf))).mul (Int.ofNat 256))).add (wrapA IntKind.u64 (AV.int IntKind.u8 (Int.ofNat b5.toNat)).intOf))).mul (Int.ofNat 256))).add (wrapA IntKind.u64 (AV.int IntKind.u8 (Int.ofNat b6.toNat)).intOf))).mul (Int.ofNat 256))).add (wrapA IntKind.u64 (AV.int IntKind.u8 (Int.ofNat b7.toNat)).intOf))), AV.bool true], h') ∧ [].map h'.get = [] :=
  call_run (q := (.z :: (oc 2 (.y :: (.y :: (oc 4 (.y :: (.y :: (oc 4 (.y :: (.y :: (oc 4 (.y :: (.y :: (oc 4 (.y :: (.y :: (oc 4 (.y :: (.y :: (oc 4 (.y :: (.y :: (oc 4 (.y :: (.y :: (oc 3 []))))))))))))))))))))))))))) (c := (Cnd.tst _ false :: Cnd.tst _ true :: Cnd.tst _ true :: Cnd.tst _ true :: Cnd.tst _ true :: Cnd.tst _ true :: Cnd.tst _ true :: Cnd.tst _ true :: Cnd.tst _ true :: Cnd.tst _ true :: Cnd.tst _ true :: Cnd.tst _ true :: Cnd.tst _ true :: Cnd.tst _ true :: Cnd.tst _ true :: Cnd.tst _ true :: Cnd.tst _ true :: [])) (by kernel_rfl) ⟨h0, h1, h2, h3, h2, h4, h2, h5, h2, h6, h2, h7, h2, h8, h2, h9, h2, trivial⟩
theorem rput8 (x : Int) :
    ∃ h', aCall C01 60 (Tgt.fn 49) [AV.int IntKind.u64 x, AV.int IntKind.i64 (Int.ofNat 8)] H0 = some (AV.slice (some (0, 0)) 8 (some 8), h') ∧ [0].map h'.get = [Blk.cells true 5 8 [AV.int IntKind.u8 (wrapA IntKind.u8 ((wrapA IntKind.u64 ((wrapA IntKind.u64 ((wrapA IntKind.u64 ((wrapA IntKind.u64 ((wrapA IntKind.u64 ((wrapA IntKind.u64 ((wrapA IntKind.u64 (x.tdiv (Int.ofNat 256))).tdiv (Int.ofNat 256))).tdiv (Int.ofNat 256))).tdiv (Int.ofNat 256))).tdiv (Int.ofNat 256))).tdiv (Int.ofNat 256))).tdiv (Int.ofNat 256))).tmod (Int.ofNat 256))), AV.int IntKind.u8 (wrapA IntKind.u8 ((wrapA IntKind.u64 ((wrapA IntKind.u64 ((wrapA IntKind.u64 ((wrapA IntKind.u64 ((wrapA IntKind.u64 ((wrapA IntKind.u64 (x.tdiv (Int.ofNat 256))).tdiv (Int.ofNat 256))).tdiv (Int.ofNat 256))).tdiv (Int.ofNat 256))).tdiv (Int.ofNat 256))).tdiv (Int.ofNat 256))).tmod (Int.ofNat 256))), AV.int IntKind.u8 (wrapA IntKind.u8 ((wrapA IntKind.u64 ((wrapA IntKind.u64 ((wrapA IntKind.u64 ((wrapA IntKind.u64 ((wrapA IntKind.u64 (x.tdiv (Int.ofNat 256))).tdiv (Int.ofNat 256))).tdiv (Int.ofNat 256))).tdiv (Int.ofNat 256))).tdiv (Int.ofNat 256))).tmod (Int.ofNat 256))), AV.int IntKind.u8 (wrapA IntKind.u8 ((wrapA IntKind.u64 ((wrapA IntKind.u64 ((wrapA IntKind.u64 ((wrapA IntKind.u64 (x.tdiv (Int.ofNat 256))).tdiv (Int.ofNat 256))).tdiv (Int.ofNat 256))).tdiv (Int.ofNat 256))).tmod (Int.ofNat 256))), AV.int IntKind.u8 (wrapA IntKind.u8 ((wrapA IntKind.u64 ((wrapA IntKind.u64 ((wrapA IntKind.u64 (x.tdiv (Int.ofNat 256))).tdiv (Int.ofNat 256))).tdiv (Int.ofNat 256))).tmod (Int.ofNat 256))), AV.int IntKind.u8 (wrapA IntKind.u8 ((wrapA IntKind.u64 ((wrapA IntKind.u64 (x.tdiv (Int.ofNat 256))).tdiv (Int.ofNat 256))).tmod (Int.ofNat 256))), AV.int IntKind.u8 (wrapA IntKind.u8 ((wrapA IntKind.u64 (x.tdiv (Int.ofNat 256))).tmod (Int.ofNat 256))), AV.int IntKind.u8 (wrapA IntKind.u8 (x.tmod (Int.ofNat 256)))]] :=
  call_run (q := (oc 69 [])) (c := ([])) (by kernel_rfl) trivial
def rgetR : RSum := RSum.pl true fun us => match us with
  | [.fsl nl len cs, .int .i64 (.ofNat w)] => some ([Nat.beq cs.length len, u8L cs, isW w], .tuple [.int .u64 (getI w cs), .bool (Nat.ble w len)])
  | _ => none
theorem rgetR_ok : RSum.Sound Try.prog tys 76 rgetR := by
  refine RSum.sound (cx_goes _ _) all01 (RSum.pl_ok fun us c v hm hc => ?_)
  split at hm
  · rename_i nl len cs w
    injection hm with hm; injection hm with e1 e2; subst e1; subst e2
    simp only [allTrue_cons] at hc
    obtain ⟨c1, c2, c3, _⟩ := hc
    have c1 := eq_of_beq' c1
    obtain ⟨l, rfl⟩ := u8L_iff.1 c2
    rw [ofBytes_length] at c1
    refine ⟨rfl, 60, ?_⟩
    rw [getI_ofBytes]
    by_cases hl : w ≤ l.length
    · rw [if_pos hl, ble_of (by omega)]
      have hil : iltB (Int.ofNat len) (Int.ofNat w) = false := by rw [iltB_eq]; exact decide_eq_false (by show ¬ (len : Int) < ((w : Nat) : Int); omega)
      rcases isW_cases c3 with rfl | rfl | rfl | rfl
      · rcases l with _ | ⟨b0, l⟩
        · simp at hl; try omega
        obtain ⟨h', h, _⟩ := rget1B nl len b0 (ofBytes l) hil (ble_of (by simp only [List.length_cons] at c1; omega)) (beq_of1 (by simp only [List.length_cons, ofBytes_length] at c1 ⊢; omega)) 
        have q0 := b0.toNat_lt;
        refine ⟨h', Eq.trans h ?_⟩
        simp only [AV.intOf]
        rw [add_first b0]
        have hg : getN (List.take 1 (b0 :: l)) = b0.toNat := by simp [getN]
        rw [hg]
      · rcases l with _ | ⟨b0, l⟩
        · simp at hl; try omega
        rcases l with _ | ⟨b1, l⟩
        · simp at hl; try omega
        obtain ⟨h', h, _⟩ := rget2B nl len b0 b1 (ofBytes l) hil (ble_of (by simp only [List.length_cons] at c1; omega)) (beq_of1 (by simp only [List.length_cons, ofBytes_length] at c1 ⊢; omega)) (ble_of (by simp only [List.length_cons] at c1; omega))
        have q0 := b0.toNat_lt; have q1 := b1.toNat_lt;
        refine ⟨h', Eq.trans h ?_⟩
        simp only [AV.intOf]
        rw [add_first b0, add_step (b0.toNat) b1 (by omega)]
        have hg : getN (List.take 2 (b0 :: b1 :: l)) = (b0.toNat * 256 + b1.toNat) := by simp [getN]
        rw [hg]
      · rcases l with _ | ⟨b0, l⟩
        · simp at hl; try omega
        rcases l with _ | ⟨b1, l⟩
        · simp at hl; try omega
        rcases l with _ | ⟨b2, l⟩
        · simp at hl; try omega
        rcases l with _ | ⟨b3, l⟩
        · simp at hl; try omega
        obtain ⟨h', h, _⟩ := rget4B nl len b0 b1 b2 b3 (ofBytes l) hil (ble_of (by simp only [List.length_cons] at c1; omega)) (beq_of1 (by simp only [List.length_cons, ofBytes_length] at c1 ⊢; omega)) (ble_of (by simp only [List.length_cons] at c1; omega)) (ble_of (by simp only [List.length_cons] at c1; omega)) (ble_of (by simp only [List.length_cons] at c1; omega))
        have q0 := b0.toNat_lt; have q1 := b1.toNat_lt; have q2 := b2.toNat_lt; have q3 := b3.toNat_lt;
        refine ⟨h', Eq.trans h ?_⟩
        simp only [AV.intOf]
        rw [add_first b0, add_step (b0.toNat) b1 (by omega), add_step ((b0.toNat * 256 + b1.toNat)) b2 (by omega), add_step (((b0.toNat * 256 + b1.toNat) * 256 + b2.toNat)) b3 (by omega)]
        have hg : getN (List.take 4 (b0 :: b1 :: b2 :: b3 :: l)) = (((b0.toNat * 256 + b1.toNat) * 256 + b2.toNat) * 256 + b3.toNat) := by simp [getN]
        rw [hg]
      · rcases l with _ | ⟨b0, l⟩
        · simp at hl; try omega
        rcases l with _ | ⟨b1, l⟩
        · simp at hl; try omega
        rcases l with _ | ⟨b2, l⟩
        · simp at hl; try omega
        rcases l with _ | ⟨b3, l⟩
        · simp at hl; try omega
        rcases l with _ | ⟨b4, l⟩
        · simp at hl; try omega
        rcases l with _ | ⟨b5, l⟩
        · simp at hl; try omega
        rcases l with _ | ⟨b6, l⟩
        · simp at hl; try omega
        rcases l with _ | ⟨b7, l⟩
        · simp at hl; try omega
        obtain ⟨h', h, _⟩ := rget8B nl len b0 b1 b2 b3 b4 b5 b6 b7 (ofBytes l) hil (ble_of (by simp only [List.length_cons] at c1; omega)) (beq_of1 (by simp only [List.length_cons, ofBytes_length] at c1 ⊢; omega)) (ble_of (by simp only [List.length_cons] at c1; omega)) (ble_of (by simp only [List.length_cons] at c1; omega)) (ble_of (by simp only [List.length_cons] at c1; omega)) (ble_of (by simp only [List.length_cons] at c1; omega)) (ble_of (by simp only [List.length_cons] at c1; omega)) (ble_of (by simp only [List.length_cons] at c1; omega)) (ble_of (by simp only [List.length_cons] at c1; omega))
        have q0 := b0.toNat_lt; have q1 := b1.toNat_lt; have q2 := b2.toNat_lt; have q3 := b3.toNat_lt; have q4 := b4.toNat_lt; have q5 := b5.toNat_lt; have q6 := b6.toNat_lt; have q7 := b7.toNat_lt;
        refine ⟨h', Eq.trans h ?_⟩
        simp only [AV.intOf]
        rw [add_first b0, add_step (b0.toNat) b1 (by omega), add_step ((b0.toNat * 256 + b1.toNat)) b2 (by omega), add_step (((b0.toNat * 256 + b1.toNat) * 256 + b2.toNat)) b3 (by omega), add_step ((((b0.toNat * 256 + b1.toNat) * 256 + b2.toNat) * 256 + b3.toNat)) b4 (by omega), add_step (((((b0.toNat * 256 + b1.toNat) * 256 + b2.toNat) * 256 + b3.toNat) * 256 + b4.toNat)) b5 (by omega), add_step ((((((b0.toNat * 256 + b1.toNat) * 256 + b2.toNat) * 256 + b3.toNat) * 256 + b4.toNat) * 256 + b5.toNat)) b6 (by omega), add_step (((((((b0.toNat * 256 + b1.toNat) * 256 + b2.toNat) * 256 + b3.toNat) * 256 + b4.toNat) * 256 + b5.toNat) * 256 + b6.toNat)) b7 (by omega)]
        have hg : getN (List.take 8 (b0 :: b1 :: b2 :: b3 :: b4 :: b5 :: b6 :: b7 :: l)) = (((((((b0.toNat * 256 + b1.toNat) * 256 + b2.toNat) * 256 + b3.toNat) * 256 + b4.toNat) * 256 + b5.toNat) * 256 + b6.toNat) * 256 + b7.toNat) := by simp [getN]
        rw [hg]
    · rw [if_neg hl]
      have hil : iltB (Int.ofNat len) (Int.ofNat w) = true := by rw [iltB_eq]; exact decide_eq_true (by show (len : Int) < ((w : Nat) : Int); omega)
      have : Nat.ble w len = false := by rw [nble]; exact decide_eq_false (by omega)
      rw [this]
      rcases isW_cases c3 with rfl | rfl | rfl | rfl
      · obtain ⟨h', h, _⟩ := rget1A nl len l hil; exact ⟨h', h⟩
      · obtain ⟨h', h, _⟩ := rget2A nl len l hil; exact ⟨h', h⟩
      · obtain ⟨h', h, _⟩ := rget4A nl len l hil; exact ⟨h', h⟩
      · obtain ⟨h', h, _⟩ := rget8A nl len l hil; exact ⟨h', h⟩
  · cases hm
theorem rcells1 (x : Nat) (hx : x < 18446744073709551616) : [AV.int .u8 (wrapA .u8 ((x : Int).tmod (Int.ofNat 256)))] = ofBytes (putB 1 x) := by
  have h : ofBytes (putB 1 x) = [.int .u8 ((UInt8.ofNat (x / 256 ^ 0)).toNat : Int)] := rfl
  have e0 : (x : Int) = ((x / 256 ^ 0 : Nat) : Int) := by simp

  rw [h, e0]
  try simp only [low_byte]
  try simp only [low_byte]
theorem rcells2 (x : Nat) (hx : x < 18446744073709551616) : [AV.int .u8 (wrapA .u8 ((wrapA .u64 ((x : Int).tdiv (Int.ofNat 256))).tmod (Int.ofNat 256))), AV.int .u8 (wrapA .u8 ((x : Int).tmod (Int.ofNat 256)))] = ofBytes (putB 2 x) := by
  have h : ofBytes (putB 2 x) = [.int .u8 ((UInt8.ofNat (x / 256 ^ 1)).toNat : Int), .int .u8 ((UInt8.ofNat (x / 256 ^ 0)).toNat : Int)] := rfl
  have e0 : (x : Int) = ((x / 256 ^ 0 : Nat) : Int) := by simp
  have d0 : wrapA .u64 (((x / 256 ^ 0 : Nat) : Int).tdiv (Int.ofNat 256)) = ((x / 256 ^ 1 : Nat) : Int) := by rw [div_step _ (by omega), Nat.div_div_eq_div_mul, ← Nat.pow_succ]
  rw [h, e0]
  try simp only [d0]
  try simp only [low_byte]
theorem rcells4 (x : Nat) (hx : x < 18446744073709551616) : [AV.int .u8 (wrapA .u8 ((wrapA .u64 ((wrapA .u64 ((wrapA .u64 ((x : Int).tdiv (Int.ofNat 256))).tdiv (Int.ofNat 256))).tdiv (Int.ofNat 256))).tmod (Int.ofNat 256))), AV.int .u8 (wrapA .u8 ((wrapA .u64 ((wrapA .u64 ((x : Int).tdiv (Int.ofNat 256))).tdiv (Int.ofNat 256))).tmod (Int.ofNat 256))), AV.int .u8 (wrapA .u8 ((wrapA .u64 ((x : Int).tdiv (Int.ofNat 256))).tmod (Int.ofNat 256))), AV.int .u8 (wrapA .u8 ((x : Int).tmod (Int.ofNat 256)))] = ofBytes (putB 4 x) := by
  have h : ofBytes (putB 4 x) = [.int .u8 ((UInt8.ofNat (x / 256 ^ 3)).toNat : Int), .int .u8 ((UInt8.ofNat (x / 256 ^ 2)).toNat : Int), .int .u8 ((UInt8.ofNat (x / 256 ^ 1)).toNat : Int), .int .u8 ((UInt8.ofNat (x / 256 ^ 0)).toNat : Int)] := rfl
  have e0 : (x : Int) = ((x / 256 ^ 0 : Nat) : Int) := by simp
  have d0 : wrapA .u64 (((x / 256 ^ 0 : Nat) : Int).tdiv (Int.ofNat 256)) = ((x / 256 ^ 1 : Nat) : Int) := by rw [div_step _ (by omega), Nat.div_div_eq_div_mul, ← Nat.pow_succ]
  have d1 : wrapA .u64 (((x / 256 ^ 1 : Nat) : Int).tdiv (Int.ofNat 256)) = ((x / 256 ^ 2 : Nat) : Int) := by rw [div_step _ (by omega), Nat.div_div_eq_div_mul, ← Nat.pow_succ]
  have d2 : wrapA .u64 (((x / 256 ^ 2 : Nat) : Int).tdiv (Int.ofNat 256)) = ((x / 256 ^ 3 : Nat) : Int) := by rw [div_step _ (by omega), Nat.div_div_eq_div_mul, ← Nat.pow_succ]
  rw [h, e0]
  try simp only [d0, d1, d2]
  try simp only [low_byte]
theorem rcells8 (x : Nat) (hx : x < 18446744073709551616) : [AV.int .u8 (wrapA .u8 ((wrapA .u64 ((wrapA .u64 ((wrapA .u64 ((wrapA .u64 ((wrapA .u64 ((wrapA .u64 ((wrapA .u64 ((x : Int).tdiv (Int.ofNat 256))).tdiv (Int.ofNat 256))).tdiv (Int.ofNat 256))).tdiv (Int.ofNat 256))).tdiv (Int.ofNat 256))).tdiv (Int.ofNat 256))).tdiv (Int.ofNat 256))).tmod (Int.ofNat 256))), AV.int .u8 (wrapA .u8 ((wrapA .u64 ((wrapA .u64 ((wrapA .u64 ((wrapA .u64 ((wrapA .u64 ((wrapA .u64 ((x : Int).tdiv (Int.ofNat 256))).tdiv (Int.ofNat 256))).tdiv (Int.ofNat 256))).tdiv (Int.ofNat 256))).tdiv (Int.ofNat 256))).tdiv (Int.ofNat 256))).tmod (Int.ofNat 256))), AV.int .u8 (wrapA .u8 ((wrapA .u64 ((wrapA .u64 ((wrapA .u64 ((wrapA .u64 ((wrapA .u64 ((x : Int).tdiv (Int.ofNat 256))).tdiv (Int.ofNat 256))).tdiv (Int.ofNat 256))).tdiv (Int.ofNat 256))).tdiv (Int.ofNat 256))).tmod (Int.ofNat 256))), AV.int .u8 (wrapA .u8 ((wrapA .u64 ((wrapA .u64 ((wrapA .u64 ((wrapA .u64 ((x : Int).tdiv (Int.ofNat 256))).tdiv (Int.ofNat 256))).tdiv (Int.ofNat 256))).tdiv (Int.ofNat 256))).tmod (Int.ofNat 256))), AV.int .u8 (wrapA .u8 ((wrapA .u64 ((wrapA .u64 ((wrapA .u64 ((x : Int).tdiv (Int.ofNat 256))).tdiv (Int.ofNat 256))).tdiv (Int.ofNat 256))).tmod (Int.ofNat 256))), AV.int .u8 (wrapA .u8 ((wrapA .u64 ((wrapA .u64 ((x : Int).tdiv (Int.ofNat 256))).tdiv (Int.ofNat 256))).tmod (Int.ofNat 256))), AV.int .u8 (wrapA .u8 ((wrapA .u64 ((x : Int).tdiv (Int.ofNat 256))).tmod (Int.ofNat 256))), AV.int .u8 (wrapA .u8 ((x : Int).tmod (Int.ofNat 256)))] = ofBytes (putB 8 x) := by
  have h : ofBytes (putB 8 x) = [.int .u8 ((UInt8.ofNat (x / 256 ^ 7)).toNat : Int), .int .u8 ((UInt8.ofNat (x / 256 ^ 6)).toNat : Int), .int .u8 ((UInt8.ofNat (x / 256 ^ 5)).toNat : Int), .int .u8 ((UInt8.ofNat (x / 256 ^ 4)).toNat : Int), .int .u8 ((UInt8.ofNat (x / 256 ^ 3)).toNat : Int), .int .u8 ((UInt8.ofNat (x / 256 ^ 2)).toNat : Int), .int .u8 ((UInt8.ofNat (x / 256 ^ 1)).toNat : Int), .int .u8 ((UInt8.ofNat (x / 256 ^ 0)).toNat : Int)] := rfl
  have e0 : (x : Int) = ((x / 256 ^ 0 : Nat) : Int) := by simp
  have d0 : wrapA .u64 (((x / 256 ^ 0 : Nat) : Int).tdiv (Int.ofNat 256)) = ((x / 256 ^ 1 : Nat) : Int) := by rw [div_step _ (by omega), Nat.div_div_eq_div_mul, ← Nat.pow_succ]
  have d1 : wrapA .u64 (((x / 256 ^ 1 : Nat) : Int).tdiv (Int.ofNat 256)) = ((x / 256 ^ 2 : Nat) : Int) := by rw [div_step _ (by omega), Nat.div_div_eq_div_mul, ← Nat.pow_succ]
  have d2 : wrapA .u64 (((x / 256 ^ 2 : Nat) : Int).tdiv (Int.ofNat 256)) = ((x / 256 ^ 3 : Nat) : Int) := by rw [div_step _ (by omega), Nat.div_div_eq_div_mul, ← Nat.pow_succ]
  have d3 : wrapA .u64 (((x / 256 ^ 3 : Nat) : Int).tdiv (Int.ofNat 256)) = ((x / 256 ^ 4 : Nat) : Int) := by rw [div_step _ (by omega), Nat.div_div_eq_div_mul, ← Nat.pow_succ]
  have d4 : wrapA .u64 (((x / 256 ^ 4 : Nat) : Int).tdiv (Int.ofNat 256)) = ((x / 256 ^ 5 : Nat) : Int) := by rw [div_step _ (by omega), Nat.div_div_eq_div_mul, ← Nat.pow_succ]
  have d5 : wrapA .u64 (((x / 256 ^ 5 : Nat) : Int).tdiv (Int.ofNat 256)) = ((x / 256 ^ 6 : Nat) : Int) := by rw [div_step _ (by omega), Nat.div_div_eq_div_mul, ← Nat.pow_succ]
  have d6 : wrapA .u64 (((x / 256 ^ 6 : Nat) : Int).tdiv (Int.ofNat 256)) = ((x / 256 ^ 7 : Nat) : Int) := by rw [div_step _ (by omega), Nat.div_div_eq_div_mul, ← Nat.pow_succ]
  rw [h, e0]
  try simp only [d0, d1, d2, d3, d4, d5, d6]
  try simp only [low_byte]
def rputR : RSum := RSum.nb true fun us => match us with
  | [.int .u64 x, .int .i64 (.ofNat w)] => some ([isW w, ileB 0 x, iltB x 18446744073709551616], fun n => .slice (some (n, 0)) w (some w), [.cells true 5 w (kept (ofBytes (putB w x.toNat)))])
  | _ => none
theorem rputR_ok : RSum.Sound Try.prog tys 49 rputR := by
  refine RSum.sound (cx_goes _ _) all01 (RSum.nb_ok fun us c v bs hm hc => ?_)
  split at hm
  · rename_i x w
    injection hm with hm; injection hm with e1 hm; injection hm with e2 e3; rw [kept_eq] at e3; subst e1; subst e2; subst e3
    simp only [allTrue_cons] at hc
    obtain ⟨c1, c2, c3, _⟩ := hc
    obtain ⟨x, rfl⟩ := nat_of c2
    have c3 : x < 18446744073709551616 := lt_of c3
    refine ⟨fun b hb => ?_, ?_⟩
    · have : b = .cells true 5 w (ofBytes (putB w x)) := by simpa using hb
      subst this
      simp only [Blk.plainOwn, ofBytes_plain, Bool.and_self]
    · have fin : ∀ (n : Nat) (ρ : Nat → Nat), (∀ (l j : Nat), [0][l]? = some j → ρ j = n + l) → AV.Le ((AV.slice (some (0, 0)) w (some w)).ren ρ) (.slice (some (n, 0)) w (some w)) := by
        intro n ρ hρ
        have := hρ 0 0 rfl
        simp only [AV.ren, Option.map_some, this, Nat.add_zero]
        exact AV.Le.refl _
      rcases isW_cases c1 with rfl | rfl | rfl | rfl
      · obtain ⟨h', h, hb⟩ := rput1 x
        exact ⟨60, h', [0], _, h, by rw [hb, rcells1 x c3]; rfl, sel_one 0, rfl, fin⟩
      · obtain ⟨h', h, hb⟩ := rput2 x
        exact ⟨60, h', [0], _, h, by rw [hb, rcells2 x c3]; rfl, sel_one 0, rfl, fin⟩
      · obtain ⟨h', h, hb⟩ := rput4 x
        exact ⟨60, h', [0], _, h, by rw [hb, rcells4 x c3]; rfl, sel_one 0, rfl, fin⟩
      · obtain ⟨h', h, hb⟩ := rput8 x
        exact ⟨60, h', [0], _, h, by rw [hb, rcells8 x c3]; rfl, sel_one 0, rfl, fin⟩
  · cases hm
end Go.Proofs.Ytecncappdnhbaaa
end
end

/- Bytes added bit by bit; are all noughts? The loops. -/
section
set_option autoImplicit false
set_option linter.unusedVariables false
set_option linter.unusedSimpArgs false
set_option maxRecDepth 100000
noncomputable section
namespace Go.Ab
namespace M
def xorB (n : Nat) (a b : List UInt8) : List UInt8 := (List.range n).map fun i => a.getD i 0 ^^^ b.getD i 0
end M
open M
theorem at_ofBytes (l : List UInt8) (i : Nat) (h : i < l.length) : (listAt (List.drop ((Int.ofNat i).toNat * 1) (ofBytes l)) 0).getD AV.undef = .int .u8 ((l.getD i 0).toNat : Int) := by
  have e : List.drop ((Int.ofNat i).toNat * 1) (ofBytes l) = ofBytes (l.drop i) := by
    show List.drop (i * 1) (ofBytes l) = _
    rw [Nat.mul_one, ofBytes_drop]
  rw [e, listAt_ofBytes _ 0 (by rw [List.length_drop]; omega)]
  simp [h]
theorem room_ofBytes (l : List UInt8) (i : Nat) (h : i < l.length) : Nat.ble 1 (List.drop ((Int.ofNat i).toNat * 1) (ofBytes l)).length = true := by
  rw [nble]
  refine decide_eq_true ?_
  show 1 ≤ (List.drop (i * 1) (ofBytes l)).length
  rw [List.length_drop, ofBytes_length]; omega
end Go.Ab
namespace Go.Proofs.Ytecncappdnhbaaa
open Go.Ab.M Go.Ab Go
abbrev Ce := mkCxH tys fns [] []
theorem allHe : SumAll Try.prog Ce := sums_allH (fun _ h => by cases h) (fun _ h => by cases h)
theorem idx_next (nl : Bool) (len : Nat) (cs : List AV) (z : Int) (n : Nat) (i : Nat) (h0 : (iltB (Int.ofNat i) (Int.ofNat n)) = true) (h1 : ((Int.ofNat i).toNat.succ.ble len) = true) (h2 : (cs.length.beq (len.mul 1)) = true) (h3 : (Nat.ble 1 (List.drop ((Int.ofNat i).toNat * 1) cs).length) = true) (h4 : (AV.isInt IntKind.u8 ((listAt (List.drop ((Int.ofNat i).toNat * 1) cs) 0).getD AV.undef)) = true) (h5 : (!ieqB ((listAt (List.drop ((Int.ofNat i).toNat * 1) cs) 0).getD AV.undef).intOf (Int.ofNat 0)) = false) (hu0 : AV.plain (AV.int IntKind.i64 (wrapA IntKind.i64 ((Int.ofNat i).add (Int.ofNat 1)))) = true) (hu : AV.plainL [AV.fsl nl len cs, AV.func 83 [] [], AV.int IntKind.i64 z, AV.int IntKind.i64 (Int.ofNat n)] = true) :
    CodeOK Try.prog (tyCx tys) 19 0 (roundOf (blockOf Try.f101 0)) { fr := frameOf 19 ((8, AV.int IntKind.i64 (Int.ofNat i)) :: [0, 1, 4, 7].zip [AV.fsl nl len cs, AV.func 83 [] [], AV.int IntKind.i64 z, AV.int IntKind.i64 (Int.ofNat n)]), ds := [], H := mk1 none } (AX.normal) ⟨frameOf 19 ((8, AV.int IntKind.i64 (wrapA IntKind.i64 ((Int.ofNat i).add (Int.ofNat 1)))) :: [0, 1, 4, 7].zip [AV.fsl nl len cs, AV.func 83 [] [], AV.int IntKind.i64 z, AV.int IntKind.i64 (Int.ofNat n)]), [], mk1 none⟩ :=
  own_run0 (g := 30) (k := 101) (f := 30) (kk := 0) (bb := Blk.dead) (cx_goes _ _) allHe (q := (.y :: (oc 1 (.y :: (.y :: (.y :: (.y :: (.z :: [])))))))) (c := (Cnd.tst _ true :: Cnd.tst _ true :: Cnd.tst _ true :: Cnd.tst _ true :: Cnd.tst _ true :: Cnd.tst _ false :: [])) (by kernel_rfl) ⟨h0, h1, h2, h3, h4, h5, trivial⟩ (by kernel_rfl) hu0 hu
theorem idx_end (nl : Bool) (len : Nat) (cs : List AV) (z : Int) (n : Nat) (i : Nat) (h0 : (iltB (Int.ofNat i) (Int.ofNat n)) = false) (hu0 : AV.plain (AV.int IntKind.i64 (Int.ofNat i)) = true) (hu : AV.plainL [AV.fsl nl len cs, AV.func 83 [] [], AV.int IntKind.i64 z, AV.int IntKind.i64 (Int.ofNat n)] = true) :
    CodeOK Try.prog (tyCx tys) 19 0 (roundOf (blockOf Try.f101 0)) { fr := frameOf 19 ((8, AV.int IntKind.i64 (Int.ofNat i)) :: [0, 1, 4, 7].zip [AV.fsl nl len cs, AV.func 83 [] [], AV.int IntKind.i64 z, AV.int IntKind.i64 (Int.ofNat n)]), ds := [], H := mk1 none } (AX.exit 0) ⟨frameOf 19 ((8, AV.int IntKind.i64 (Int.ofNat i)) :: [0, 1, 4, 7].zip [AV.fsl nl len cs, AV.func 83 [] [], AV.int IntKind.i64 z, AV.int IntKind.i64 (Int.ofNat n)]), [], mk1 none⟩ :=
  own_run0 (g := 30) (k := 101) (f := 30) (kk := 0) (bb := Blk.dead) (cx_goes _ _) allHe (q := (.z :: [])) (c := (Cnd.tst _ false :: [])) (by kernel_rfl) ⟨h0, trivial⟩ (by kernel_rfl) hu0 hu
theorem idx_hit (nl : Bool) (len : Nat) (cs : List AV) (z : Int) (n : Nat) (i : Nat) (h0 : (iltB (Int.ofNat i) (Int.ofNat n)) = true) (h1 : ((Int.ofNat i).toNat.succ.ble len) = true) (h2 : (cs.length.beq (len.mul 1)) = true) (h3 : (Nat.ble 1 (List.drop ((Int.ofNat i).toNat * 1) cs).length) = true) (h4 : (AV.isInt IntKind.u8 ((listAt (List.drop ((Int.ofNat i).toNat * 1) cs) 0).getD AV.undef)) = true) (h5 : (!ieqB ((listAt (List.drop ((Int.ofNat i).toNat * 1) cs) 0).getD AV.undef).intOf (Int.ofNat 0)) = true) (hu0 : AV.plain (AV.int IntKind.i64 (Int.ofNat i)) = true) (hu : AV.plainL [AV.fsl nl len cs, AV.func 83 [] [], AV.int IntKind.i64 (Int.ofNat i), AV.int IntKind.i64 (Int.ofNat n)] = true) :
    CodeOK Try.prog (tyCx tys) 19 0 (roundOf (blockOf Try.f101 0)) { fr := frameOf 19 ((8, AV.int IntKind.i64 (Int.ofNat i)) :: [0, 1, 4, 7].zip [AV.fsl nl len cs, AV.func 83 [] [], AV.int IntKind.i64 z, AV.int IntKind.i64 (Int.ofNat n)]), ds := [], H := mk1 none } (AX.ret) ⟨frameOf 19 ((8, AV.int IntKind.i64 (Int.ofNat i)) :: [0, 1, 4, 7].zip [AV.fsl nl len cs, AV.func 83 [] [], AV.int IntKind.i64 (Int.ofNat i), AV.int IntKind.i64 (Int.ofNat n)]), [], mk1 none⟩ :=
  own_run0 (g := 30) (k := 101) (f := 30) (kk := 0) (bb := Blk.dead) (cx_goes _ _) allHe (q := (.y :: (oc 1 (.y :: (.y :: (.y :: (.y :: (.y :: [])))))))) (c := (Cnd.tst _ true :: Cnd.tst _ true :: Cnd.tst _ true :: Cnd.tst _ true :: Cnd.tst _ true :: Cnd.tst _ true :: [])) (by kernel_rfl) ⟨h0, h1, h2, h3, h4, h5, trivial⟩ (by kernel_rfl) hu0 hu
structure XorS where
  a0 : Bool
  l : List UInt8
  a1 : Bool
  m : List UInt8
  n : Nat
  c : Nat
  cs : List AV
  i : Nat
def XorS.enc (p : XorS) : HSt := (.slice (some (0, 0)) p.n (some p.c), some (.cells true 5 p.n (ofBytes ((xorB p.n p.l p.m).take p.i) ++ p.cs.drop p.i)), [.fsl p.a0 p.l.length (ofBytes p.l), .fsl p.a1 p.m.length (ofBytes p.m), .int .i64 (.ofNat p.n), .int .i64 (.ofNat p.i)])
def XorS.fin (p : XorS) : AX × HSt := (.exit 0, .slice (some (0, 0)) p.n (some p.c), some (.cells true 5 p.n (ofBytes (xorB p.n p.l p.m))), [.fsl p.a0 p.l.length (ofBytes p.l), .fsl p.a1 p.m.length (ofBytes p.m), .int .i64 (.ofNat p.n), .int .i64 (.ofNat p.n)])
def XorS.ok (p : XorS) : Prop := p.n ≤ p.l.length ∧ p.n ≤ p.m.length ∧ p.cs.length = p.n ∧ AV.plainL p.cs = true ∧ p.i ≤ p.n ∧ p.n ≤ 1000000000000
end Go.Proofs.Ytecncappdnhbaaa
end
end

/- Are all noughts? and the law's own loop. -/
section
set_option autoImplicit false
set_option linter.unusedVariables false
set_option linter.unusedSimpArgs false
set_option maxRecDepth 100000
noncomputable section
namespace Go.Ab
namespace M
def zeroL (cs : List AV) : Bool := kept ((bytesL cs).all fun b => b == 0)
def firstNZ (cs : List AV) : Nat := kept ((bytesL cs).findIdx fun b => b != 0)
end M
open M
end Go.Ab
namespace Go.Proofs.Ytecncappdnhbaaa
open Go.Ab.M Go.Ab Go
theorem plain_idx {nl : Bool} {l : List UInt8} {x y : Int} : AV.plainL [.fsl nl l.length (ofBytes l), .func 83 [] [], .int .i64 x, .int .i64 y] = true := by
  simp [AV.plainL, AV.plain, ofBytes_plainL]
structure IdxS where
  nl : Bool
  l : List UInt8
  z : Int
  i : Nat
def IdxS.enc (p : IdxS) : HSt := (.int .i64 (.ofNat p.i), none, [.fsl p.nl p.l.length (ofBytes p.l), .func 83 [] [], .int .i64 p.z, .int .i64 (.ofNat p.l.length)])
def IdxS.finZ (p : IdxS) : AX × HSt := (.exit 0, .int .i64 (.ofNat p.l.length), none, [.fsl p.nl p.l.length (ofBytes p.l), .func 83 [] [], .int .i64 p.z, .int .i64 (.ofNat p.l.length)])
def IdxS.finN (p : IdxS) : AX × HSt := (.ret, .int .i64 (.ofNat (p.l.findIdx fun b => b != 0)), none, [.fsl p.nl p.l.length (ofBytes p.l), .func 83 [] [], .int .i64 (.ofNat (p.l.findIdx fun b => b != 0)), .int .i64 (.ofNat p.l.length)])
theorem idx_go (nl : Bool) (l : List UInt8) (z : Int) (i : Nat) (hi : i < l.length) (hb : l.length ≤ 1000000000000) (h0 : l.getD i 0 = 0) : CodeOK Try.prog (tyCx tys) 19 0 (roundOf (blockOf Try.f101 0)) { fr := frameOf 19 ((8, AV.int IntKind.i64 (Int.ofNat i)) :: [0, 1, 4, 7].zip [.fsl nl l.length (ofBytes l), AV.func 83 [] [], AV.int IntKind.i64 z, AV.int IntKind.i64 (Int.ofNat l.length)]), ds := [], H := mk1 none } AX.normal { fr := frameOf 19 ((8, AV.int IntKind.i64 (Int.ofNat (i + 1))) :: [0, 1, 4, 7].zip [.fsl nl l.length (ofBytes l), AV.func 83 [] [], AV.int IntKind.i64 z, AV.int IntKind.i64 (Int.ofNat l.length)]), ds := [], H := mk1 none } := by
  have ew : wrapA IntKind.i64 ((Int.ofNat i).add (Int.ofNat 1)) = Int.ofNat (i + 1) := i64_add i 1 (by omega)
  have h := idx_next nl l.length (ofBytes l) z l.length i (by rw [iltB_eq]; exact decide_eq_true (by show (i : Int) < (l.length : Int); omega)) (ble_of (by show i + 1 ≤ _; omega)) (beq_of1 (ofBytes_length l)) (room_ofBytes l i hi) (by rw [at_ofBytes l i hi]; rfl) (by rw [at_ofBytes l i hi, h0]; rfl) rfl plain_idx
  rw [ew] at h
  exact h
def idxZ : HLoop := ⟨19, blockOf Try.f101 0, 8, [0, 1, 4, 7], fun v ob us => match v, ob, us with
  | .int .i64 (.ofNat 0), none, [.fsl nl len cs, .func 83 [] [], .int .i64 z, .int .i64 (.ofNat n)] =>
    some ([u8L cs, Nat.beq cs.length len, Nat.beq n len, zeroL cs, Nat.ble len 1000000000000], .normal, .int .i64 (.ofNat n), none, [.fsl nl len cs, .func 83 [] [], .int .i64 z, .int .i64 (.ofNat n)])
  | _, _, _ => none⟩
theorem idxZ_ok : idxZ.OK Try.prog (tyCx tys) 0 := by
  refine HLoop.ok_by (b := roundOf (blockOf Try.f101 0)) (by kernel_rfl) IdxS.enc IdxS.finZ (fun p => p.i ≤ p.l.length ∧ p.l.length ≤ 1000000000000 ∧ ∀ i, i < p.l.length → p.l.getD i 0 = 0) (fun p => p.l.length - p.i) ?_ ?_
  · intro v ob us conds X v' ob' us' h hc hpl hin
    simp only [idxZ] at h
    split at h
    · rename_i nl len cs z n
      injection h with h; injection h with e1 h; injection h with e2 h; injection h with e3 h; injection h with e4 e5
      subst e1; subst e2; subst e3; subst e4; subst e5
      simp only [allTrue_cons] at hc
      obtain ⟨c1, c2, c3, c4, c5, _⟩ := hc
      obtain ⟨l, rfl⟩ := u8L_iff.1 c1
      have c2 := eq_of_beq' c2
      have c3 := eq_of_beq' c3
      rw [ofBytes_length] at c2
      subst c2; subst c3
      refine ⟨⟨nl, l, z, 0⟩, ⟨Nat.zero_le _, Nat.le_of_ble_eq_true c5, ?_⟩, rfl, rfl, rfl, plain_idx, rfl⟩
      intro i hi
      unfold zeroL at c4
      rw [kept_eq, bytesL_ofBytes, List.all_eq_true] at c4
      have := c4 l[i] (List.getElem_mem hi)
      simpa [hi] using this
    · cases h
  · rintro ⟨nl, l, z, i⟩ ⟨h1, h2, h3⟩
    simp only at h1 h2 h3
    by_cases hi : i < l.length
    · left
      exact ⟨⟨nl, l, z, i + 1⟩, ⟨hi, h2, h3⟩, rfl, by simp only; omega, idx_go nl l z i hi h2 (h3 i hi)⟩
    · have hi : i = l.length := by omega
      subst hi
      right
      exact ⟨by simp [IdxS.finZ], idx_end nl l.length (ofBytes l) z l.length l.length (by rw [iltB_eq]; exact decide_eq_false (by show ¬ (l.length : Int) < (l.length : Int); omega)) rfl plain_idx⟩
def idxN : HLoop := ⟨19, blockOf Try.f101 0, 8, [0, 1, 4, 7], fun v ob us => match v, ob, us with
  | .int .i64 (.ofNat 0), none, [.fsl nl len cs, .func 83 [] [], .int .i64 z, .int .i64 (.ofNat n)] =>
    some ([u8L cs, Nat.beq cs.length len, Nat.beq n len, !zeroL cs, Nat.ble len 1000000000000], .ret, .int .i64 (.ofNat (firstNZ cs)), none, [.fsl nl len cs, .func 83 [] [], .int .i64 (.ofNat (firstNZ cs)), .int .i64 (.ofNat n)])
  | _, _, _ => none⟩
theorem idxN_ok : idxN.OK Try.prog (tyCx tys) 0 := by
  refine HLoop.ok_by (b := roundOf (blockOf Try.f101 0)) (by kernel_rfl) IdxS.enc IdxS.finN (fun p => p.i ≤ (p.l.findIdx fun b => b != 0) ∧ p.l.length ≤ 1000000000000 ∧ (p.l.findIdx fun b => b != 0) < p.l.length) (fun p => p.l.length - p.i) ?_ ?_
  · intro v ob us conds X v' ob' us' h hc hpl hin
    simp only [idxN] at h
    split at h
    · rename_i nl len cs z n
      injection h with h; injection h with e1 h; injection h with e2 h; injection h with e3 h; injection h with e4 e5
      unfold firstNZ at e3 e5
      rw [kept_eq] at e3 e5
      subst e1; subst e2; subst e3; subst e4; subst e5
      simp only [allTrue_cons] at hc
      obtain ⟨c1, c2, c3, c4, c5, _⟩ := hc
      obtain ⟨l, rfl⟩ := u8L_iff.1 c1
      have c2 := eq_of_beq' c2
      have c3 := eq_of_beq' c3
      rw [ofBytes_length] at c2
      subst c2; subst c3
      rw [bytesL_ofBytes]
      refine ⟨⟨nl, l, z, 0⟩, ⟨Nat.zero_le _, Nat.le_of_ble_eq_true c5, ?_⟩, rfl, rfl, rfl, plain_idx, rfl⟩
      unfold zeroL at c4
      rw [kept_eq, bytesL_ofBytes] at c4
      simp only
      rw [List.findIdx_lt_length]
      simp only [Bool.not_eq_true', List.all_eq_false] at c4
      obtain ⟨b, hb, hn⟩ := c4
      exact ⟨b, hb, by simpa using hn⟩
    · cases h
  · rintro ⟨nl, l, z, i⟩ ⟨h1, h2, h3⟩
    simp only at h1 h2 h3
    by_cases hi : i < l.findIdx fun b => b != 0
    · left
      refine ⟨⟨nl, l, z, i + 1⟩, ⟨hi, h2, h3⟩, rfl, by simp only; omega, idx_go nl l z i (by omega) h2 ?_⟩
      have := List.not_of_lt_findIdx hi
      simpa [show i < l.length by omega] using this
    · right
      have hi : i = l.findIdx fun b => b != 0 := by omega
      refine ⟨by simp [IdxS.finN], ?_⟩
      have hlt : i < l.length := by omega
      have hne : l.getD i 0 ≠ 0 := by
        have := List.findIdx_getElem (w := h3)
        simpa [← hi, hlt] using this
      have h := idx_hit nl l.length (ofBytes l) z l.length i (by rw [iltB_eq]; exact decide_eq_true (by show (i : Int) < (l.length : Int); omega)) (ble_of (by show i + 1 ≤ _; omega)) (beq_of1 (ofBytes_length l)) (room_ofBytes l i hlt) (by rw [at_ofBytes l i hlt]; rfl) (by
        rw [at_ofBytes l i hlt]
        simp only [AV.intOf]
        rw [ieqB_eq]
        have : ¬ ((l.getD i 0).toNat : Int) = Int.ofNat 0 := by
          intro e
          apply hne
          have : (l.getD i 0).toNat = 0 := by
            have e : ((l.getD i 0).toNat : Int) = ((0 : Nat) : Int) := e
            omega
          exact UInt8.toNat_inj.1 this
        simpa using this) rfl plain_idx
      have e : IdxS.finN ⟨nl, l, z, i⟩ = (.ret, .int .i64 (.ofNat i), none, [.fsl nl l.length (ofBytes l), .func 83 [] [], .int .i64 (.ofNat i), .int .i64 (.ofNat l.length)]) := by
        simp only [IdxS.finN, ← hi]
      rw [e]
      exact h
structure LawS where
  a0 : Bool
  l : List UInt8
  a1 : Bool
  m : List UInt8
  z : Int
  n : Nat
  c : Nat
  i : Nat
def LawS.enc (p : LawS) : HSt := (.slice (some (0, 0)) p.n (some p.c), some (.cells true 5 p.n (ofBytes (xorB p.n p.l p.m))), [.fsl p.a0 p.l.length (ofBytes p.l), .fsl p.a1 p.m.length (ofBytes p.m), .int .i64 p.z, .int .i64 (.ofNat p.n), .int .i64 (.ofNat p.i)])
def LawS.fin (p : LawS) : AX × HSt := (.exit 0, .slice (some (0, 0)) p.n (some p.c), some (.cells true 5 p.n (ofBytes (xorB p.n p.l p.m))), [.fsl p.a0 p.l.length (ofBytes p.l), .fsl p.a1 p.m.length (ofBytes p.m), .int .i64 p.z, .int .i64 (.ofNat p.n), .int .i64 (.ofNat p.n)])
end Go.Proofs.Ytecncappdnhbaaa
end
end

/- Rows of Xor and of Zero. -/
section
set_option autoImplicit false
set_option linter.unusedVariables false
set_option linter.unusedSimpArgs false
set_option maxRecDepth 100000
noncomputable section
namespace Go.Proofs.Ytecncappdnhbaaa
open Go.Ab.M Go.Ab Go
abbrev C04z := mkCxH tys fns [] [((101, 0), idxZ)]
theorem all04z : SumAll Try.prog C04z := sums_allH (fun _ h => by cases h) (fun p h => by
  have : p = ((101, 0), idxZ) := by simpa using h
  subst this; exact idxZ_ok)
abbrev C04n := mkCxH tys fns [] [((101, 0), idxN)]
theorem all04n : SumAll Try.prog C04n := sums_allH (fun _ h => by cases h) (fun p h => by
  have : p = ((101, 0), idxN) := by simpa using h
  subst this; exact idxN_ok)
theorem zero_Z (nl : Bool) (len : Nat) (cs : List AV) (h0 : (AV.plainL [AV.fsl nl len cs, AV.func 83 [] [], AV.int IntKind.i64 (Int.ofNat 0), AV.int IntKind.i64 (Int.ofNat len)]) = true) (h1 : (u8L cs) = true) (h2 : (cs.length.beq len) = true) (h3 : (len.beq len) = true) (h4 : (zeroL cs) = true) (h5 : (len.ble 1000000000000) = true) :
    ∃ h', aCall C04z 60 (Tgt.fn 32) [AV.fsl nl len cs] H0 = some (AV.bool true, h') ∧ [].map h'.get = [] :=
  call_runH (q := (.y :: (.y :: (.y :: (.y :: (.y :: (.y :: []))))))) (c := (Cnd.code ((101, 0), idxZ).snd.lsumS.fst ((101, 0), idxZ).snd.lsumS.fst :: Cnd.tst _ true :: Cnd.tst _ true :: Cnd.tst _ true :: Cnd.tst _ true :: Cnd.tst _ true :: Cnd.tst _ true :: [])) (by kernel_rfl) ⟨rfl, h0, h1, h2, h3, h4, h5, trivial⟩
theorem zero_N (nl : Bool) (len : Nat) (cs : List AV) (h0 : (AV.plainL [AV.fsl nl len cs, AV.func 83 [] [], AV.int IntKind.i64 (Int.ofNat 0), AV.int IntKind.i64 (Int.ofNat len)]) = true) (h1 : (u8L cs) = true) (h2 : (cs.length.beq len) = true) (h3 : (len.beq len) = true) (h4 : (!zeroL cs) = true) (h5 : (len.ble 1000000000000) = true) :
    ∃ h', aCall C04n 60 (Tgt.fn 32) [AV.fsl nl len cs] H0 = some (AV.bool !ileB (Int.ofNat 0) (Int.ofNat (firstNZ cs)), h') ∧ [].map h'.get = [] :=
  call_runH (q := (.y :: (.y :: (.y :: (.y :: (.y :: (.y :: []))))))) (c := (Cnd.code ((101, 0), idxN).snd.lsumS.fst ((101, 0), idxN).snd.lsumS.fst :: Cnd.tst _ true :: Cnd.tst _ true :: Cnd.tst _ true :: Cnd.tst _ true :: Cnd.tst _ true :: Cnd.tst _ true :: [])) (by kernel_rfl) ⟨rfl, h0, h1, h2, h3, h4, h5, trivial⟩
theorem zeroR_Z (nl : Bool) (l : List UInt8) (hb : l.length ≤ 1000000000000) (hz : zeroL (ofBytes l) = true) : ∃ h', aCall C04z 60 (.fn 32) [.fsl nl l.length (ofBytes l)] H0 = some (.bool true, h') := by
  obtain ⟨h', h, _⟩ := zero_Z nl l.length (ofBytes l) plain_idx (u8L_ofBytes l) (beq_of (ofBytes_length l)) (beq_of rfl) hz (ble_of hb)
  exact ⟨h', h⟩
theorem zeroR_N (nl : Bool) (l : List UInt8) (hb : l.length ≤ 1000000000000) (hz : zeroL (ofBytes l) = false) : ∃ h', aCall C04n 60 (.fn 32) [.fsl nl l.length (ofBytes l)] H0 = some (.bool false, h') := by
  obtain ⟨h', h, _⟩ := zero_N nl l.length (ofBytes l) plain_idx (u8L_ofBytes l) (beq_of (ofBytes_length l)) (beq_of rfl) (by rw [hz]; rfl) (ble_of hb)
  have e : ileB (Int.ofNat 0) (Int.ofNat (firstNZ (ofBytes l))) = true := by
    rw [ileB_eq]; exact decide_eq_true (by show ((0 : Nat) : Int) ≤ ((firstNZ (ofBytes l) : Nat) : Int); omega)
  rw [e] at h
  exact ⟨h', h⟩
theorem sound_split {P : Program} {ty : TypeId → Option ATy} {g : FuncId} {s s1 s2 : RSum} (h1 : RSum.Sound P ty g s1) (h2 : RSum.Sound P ty g s2) (n1 : s1.nf = s.nf) (n2 : s2.nf = s.nf)
    (h : ∀ us c q, s.m us = some (c, q) → allTrue c = true → (∃ c', s1.m us = some (c', q) ∧ allTrue c' = true) ∨ (∃ c', s2.m us = some (c', q) ∧ allTrue c' = true)) : RSum.Sound P ty g s := by
  intro base w0 g' args H H' v μ w xs hsum hw hr r n
  have one : ∀ s' : RSum, ftFind [(g, s')] g' = cb (Nat.beq g' g) (some s') none := fun s' => rfl
  replace hsum : ftSum ty [(g, s)] g' args H = some (v, H') := hsum
  unfold ftSum at hsum
  rw [one] at hsum
  cases hg : Nat.beq g' g with
  | false => rw [hg] at hsum; cases hsum
  | true =>
  rw [hg, cb_true, ob_some] at hsum
  replace hsum := ob_eq hsum; obtain ⟨⟨c1, us⟩, hv, hsum⟩ := hsum
  replace hsum := ob_eq hsum; obtain ⟨⟨c2, q⟩, hm, hsum⟩ := hsum
  simp only at hsum hm
  cases hc : allTrue (c1 ++ c2) with
  | false => rw [hc] at hsum; cases hsum
  | true =>
  rw [hc, cb_true] at hsum
  rw [allTrue_append] at hc
  have go : ∀ s' : RSum, s'.nf = s.nf → (∃ c', s'.m us = some (c', q) ∧ allTrue c' = true) → ftSum ty [(g, s')] g' args H = some (v, H') := by
    intro s' hn ⟨c', hm', hc'⟩
    unfold ftSum
    rw [one, hg, cb_true, ob_some, hn, hv, ob_some]
    simp only
    rw [hm', ob_some]
    simp only
    have : allTrue (c1 ++ c') = true := allTrue_append.2 ⟨hc.1, hc'⟩
    rw [this, cb_true]
    exact hsum
  rcases h us c2 q hm hc.2 with k | k
  · exact h1 base w0 (go s1 n1 k) hw hr r n
  · exact h2 base w0 (go s2 n2 k) hw hr r n
def zeroRZ : RSum := RSum.pl true fun us => match us with
  | [.fsl nl len cs] => some ([u8L cs, Nat.beq cs.length len, Nat.ble len 1000000000000, zeroL cs], .bool true)
  | _ => none
def zeroRN : RSum := RSum.pl true fun us => match us with
  | [.fsl nl len cs] => some ([u8L cs, Nat.beq cs.length len, Nat.ble len 1000000000000, !zeroL cs], .bool false)
  | _ => none
theorem zeroRZ_ok : RSum.Sound Try.prog tys 32 zeroRZ := by
  refine RSum.soundH (cx_goes _ _) all04z (RSum.pl_ok fun us c v hm hc => ?_)
  split at hm
  · injection hm with hm; injection hm with e1 e2; subst e1; subst e2
    simp only [allTrue_cons] at hc
    obtain ⟨c1, c2, c3, c4, _⟩ := hc
    obtain ⟨l, rfl⟩ := u8L_iff.1 c1
    have c2 := eq_of_beq' c2
    rw [ofBytes_length] at c2
    subst c2
    exact ⟨rfl, 60, zeroR_Z _ l (Nat.le_of_ble_eq_true c3) c4⟩
  · cases hm
theorem zeroRN_ok : RSum.Sound Try.prog tys 32 zeroRN := by
  refine RSum.soundH (cx_goes _ _) all04n (RSum.pl_ok fun us c v hm hc => ?_)
  split at hm
  · injection hm with hm; injection hm with e1 e2; subst e1; subst e2
    simp only [allTrue_cons] at hc
    obtain ⟨c1, c2, c3, c4, _⟩ := hc
    obtain ⟨l, rfl⟩ := u8L_iff.1 c1
    have c2 := eq_of_beq' c2
    rw [ofBytes_length] at c2
    subst c2
    exact ⟨rfl, 60, zeroR_N _ l (Nat.le_of_ble_eq_true c3) (by simpa using c4)⟩
  · cases hm
def zeroR : RSum := RSum.pl true fun us => match us with
  | [.fsl nl len cs] => some ([u8L cs, Nat.beq cs.length len, Nat.ble len 1000000000000], .bool (zeroL cs))
  | _ => none
theorem zeroR_ok : RSum.Sound Try.prog tys 32 zeroR := by
  refine sound_split zeroRZ_ok zeroRN_ok rfl rfl fun us c q hm hc => ?_
  simp only [zeroR, zeroRZ, zeroRN, RSum.pl] at hm ⊢
  split at hm
  · rename_i nl len cs
    simp only [ob_some] at hm ⊢
    injection hm with hm; injection hm with e1 e2; subst e1; subst e2
    simp only [allTrue_cons] at hc
    obtain ⟨c1, c2, c3, _⟩ := hc
    cases hz : zeroL cs with
    | true => exact .inl ⟨_, rfl, by simp [allTrue_cons, c1, c2, c3, hz]; rfl⟩
    | false => exact .inr ⟨_, rfl, by simp [allTrue_cons, c1, c2, c3, hz]; rfl⟩
  · cases hm
end Go.Proofs.Ytecncappdnhbaaa
end
end

/- Words written behind bytes: what is written stays folded. -/
section
set_option autoImplicit false
set_option linter.unusedVariables false
set_option linter.unusedSimpArgs false
set_option maxRecDepth 100000
noncomputable section
namespace Go.Ab
open Go.RowKit
/-- A row says what another one says, where its conditions hold. -/
theorem RSum.Sound.of {P : Program} {ty : TypeId → Option ATy} {g : FuncId} {s s' : RSum} (h : RSum.Sound P ty g s) (hn : s'.nf = s.nf)
    (hm : ∀ us c' q, s'.m us = some (c', q) → allTrue c' = true → ∃ c, s.m us = some (c, q) ∧ allTrue c = true) : RSum.Sound P ty g s' := by
  intro base w0 g' args H H' v μ w xs hsum hw hr r n
  have hsum' : ftSum ty [(g, s')] g' args H = some (v, H') := hsum
  unfold ftSum at hsum'
  replace hsum' := ob_eq hsum'; obtain ⟨s1, hf, hsum'⟩ := hsum'
  have hg : (g', s1) = (g, s') := by simpa using ftFind_mem hf
  injection hg with hg1 hg2
  subst hg1; subst hg2
  replace hsum' := ob_eq hsum'; obtain ⟨⟨c1, us⟩, hv, hsum'⟩ := hsum'
  replace hsum' := ob_eq hsum'; obtain ⟨⟨c2, q⟩, hq, hsum'⟩ := hsum'
  simp only at hsum' hq
  cases hc : allTrue (c1 ++ c2) with
  | false => rw [hc] at hsum'; cases hsum'
  | true =>
    rw [hc, cb_true] at hsum'
    rw [allTrue_append] at hc
    obtain ⟨c, h1, h2⟩ := hm us c2 q hq hc.2
    refine h base w0 (g := g') (args := args) (H := H) (H' := H') (v := v) (μ := μ) (w := w) (xs := xs) ?_ hw hr r n
    show ftSum ty [(g', s)] g' args H = some (v, H')
    unfold ftSum
    have e1 : ftFind [(g', s)] g' = some s := by
      show cb (Nat.beq g' g') _ _ = _
      simp
    rw [e1, ob_some, ← hn, hv, ob_some]
    simp only
    rw [h1, ob_some]
    simp only
    rw [allTrue_append.2 ⟨hc.1, h2⟩, cb_true]
    exact hsum'
end Go.Ab
namespace Go.Proofs.Ytecncappdnhbaaa
open Go.Ab.M Go.Ab Go
theorem allM6 : SumAll Try.prog (mkCxM tys fns [] []) := sums_allM (fun _ h => by cases h) (fun _ h => by cases h)
def putKu16 : RSum := RSum.nb true fun us => match us with
  | [.fsl false len cs, .int .u16 x] => some ([Nat.beq cs.length len, u8L cs, Nat.ble len 1000000000000, ileB 0 x, iltB x 65536], fun n => .slice (some (n, 0)) (len + 2) none, [.cells true 5 (len + 2) (kept (ofBytes (bytesL cs ++ putB 2 x.toNat)))])
  | _ => none
theorem putKu16_ok : RSum.Sound Try.prog tys 62 putKu16 := by
  refine putRu16_ok.of rfl fun us c' q hq hc => ?_
  simp only [putKu16, RSum.nb] at hq
  replace hq := ob_eq hq; obtain ⟨⟨c1, v, bs⟩, hm, hq⟩ := hq
  injection hq with hq; injection hq with e1 e2; subst e1; subst e2
  split at hm
  · rename_i len cs x
    injection hm with hm; injection hm with e1 hm; injection hm with e2 e3; subst e1; subst e2; subst e3
    refine ⟨_, ?_, hc⟩
    simp only [allTrue_cons] at hc
    obtain ⟨b, rfl⟩ := u8L_iff.1 hc.2.1
    show (some _ : Option _) = some _
    simp only [kept_eq, bytesL_ofBytes, ofBytes_append]
  · cases hm
def putKu32 : RSum := RSum.nb true fun us => match us with
  | [.fsl false len cs, .int .u32 x] => some ([Nat.beq cs.length len, u8L cs, Nat.ble len 1000000000000, ileB 0 x, iltB x 4294967296], fun n => .slice (some (n, 0)) (len + 4) none, [.cells true 5 (len + 4) (kept (ofBytes (bytesL cs ++ putB 4 x.toNat)))])
  | _ => none
theorem putKu32_ok : RSum.Sound Try.prog tys 78 putKu32 := by
  refine putRu32_ok.of rfl fun us c' q hq hc => ?_
  simp only [putKu32, RSum.nb] at hq
  replace hq := ob_eq hq; obtain ⟨⟨c1, v, bs⟩, hm, hq⟩ := hq
  injection hq with hq; injection hq with e1 e2; subst e1; subst e2
  split at hm
  · rename_i len cs x
    injection hm with hm; injection hm with e1 hm; injection hm with e2 e3; subst e1; subst e2; subst e3
    refine ⟨_, ?_, hc⟩
    simp only [allTrue_cons] at hc
    obtain ⟨b, rfl⟩ := u8L_iff.1 hc.2.1
    show (some _ : Option _) = some _
    simp only [kept_eq, bytesL_ofBytes, ofBytes_append]
  · cases hm
def putKu64 : RSum := RSum.nb true fun us => match us with
  | [.fsl false len cs, .int .u64 x] => some ([Nat.beq cs.length len, u8L cs, Nat.ble len 1000000000000, ileB 0 x, iltB x 18446744073709551616], fun n => .slice (some (n, 0)) (len + 8) none, [.cells true 5 (len + 8) (kept (ofBytes (bytesL cs ++ putB 8 x.toNat)))])
  | _ => none
theorem putKu64_ok : RSum.Sound Try.prog tys 80 putKu64 := by
  refine putRu64_ok.of rfl fun us c' q hq hc => ?_
  simp only [putKu64, RSum.nb] at hq
  replace hq := ob_eq hq; obtain ⟨⟨c1, v, bs⟩, hm, hq⟩ := hq
  injection hq with hq; injection hq with e1 e2; subst e1; subst e2
  split at hm
  · rename_i len cs x
    injection hm with hm; injection hm with e1 hm; injection hm with e2 e3; subst e1; subst e2; subst e3
    refine ⟨_, ?_, hc⟩
    simp only [allTrue_cons] at hc
    obtain ⟨b, rfl⟩ := u8L_iff.1 hc.2.1
    show (some _ : Option _) = some _
    simp only [kept_eq, bytesL_ofBytes, ofBytes_append]
  · cases hm
end Go.Proofs.Ytecncappdnhbaaa
end
end

/- Commits: what their sectors are: rows of the functions that write and parse them. -/
section
set_option autoImplicit false
set_option linter.unusedVariables false
set_option linter.unusedSimpArgs false
set_option maxRecDepth 100000
noncomputable section
namespace Go.Ab
namespace M
def padB (n : Nat) (b : List UInt8) : List UInt8 := b ++ List.replicate (n - b.length) 0
def byteI (b : List UInt8) (i : Nat) : Int := ((b.getD i 0).toNat : Int)
end M
open M
theorem padB_length (n : Nat) (b : List UInt8) (h : b.length ≤ n) : (padB n b).length = n := by simp [padB]; omega
theorem u8_of (n : Int) (h0 : 0 ≤ n) (h1 : n < 256) : AV.int .u8 n = .int .u8 ((UInt8.ofNat n.toNat).toNat : Int) := by
  rw [UInt8.toNat_ofNat']
  congr 1
  omega
end Go.Ab
namespace Go.Proofs.Ytecncappdnhbaaa
open Go.Ab.M Go.Ab Go
theorem bits64_ok : RSum.Sound Try.prog tys 66 (RSum.const (.int .i64 (Int.ofNat 64))) := RSum.sound (cx_goes _ _) all0 (RSum.const_ok rfl (let ⟨h', h, _⟩ := bits_u64; ⟨h', h⟩))
abbrev T6a : TTab := [(80, putKu64.rt), (49, rputR.rt), (32, zeroR.rt), (81, getRu64.rt), (66, (RSum.const (.int .i64 (Int.ofNat 64))).rt)]
theorem T6a_ok : TOK Try.prog tys T6a := ⟨RSum.rt_sound putKu64_ok, RSum.rt_sound rputR_ok, RSum.rt_sound zeroR_ok, RSum.rt_sound getRu64_ok, RSum.rt_sound bits64_ok, trivial⟩
abbrev C6a := mkCxT tys fns T6a []
theorem all6a : SumAll Try.prog C6a := sums_allT T6a_ok trivial
theorem sized_r (n : Nat) (cs : List AV) (h0 : (iltB (Int.ofNat n) (Int.ofNat 512)) = true) (h1 : (appRoom 1 n 1) = true) (h2 : (n.beq (n * 1)) = true) (hb : List.all [Blk.cells true 5 (cs ++ [AV.int IntKind.u8 (Int.ofNat 0)]).length (cs ++ [AV.int IntKind.u8 (Int.ofNat 0)])] Blk.plainB = true) (hu : List.all [AV.slice (some (2, 0)) (n + 1) none] (okS [2]) = true) :
    CodeOK Try.prog (tyCx tys) 11 0 (roundOf (blockOf Try.f87 0)) { fr := frameOf 11 ([0].zip [AV.slice (some (0, 0)) n none]), ds := [], H := mkL [Blk.cells true 5 n cs] } (AX.normal) ⟨frameOf 11 ([0].zip [AV.slice (some (0, 0)) (n + 1) (none)]), [], mkL [Blk.cells true 5 (cs ++ [AV.int IntKind.u8 (Int.ofNat 0)]).length (cs ++ [AV.int IntKind.u8 (Int.ofNat 0)])]⟩ :=
  rows_run (g := 30) (k := 87) (f := 30) (sl := [0]) (ks := [2]) (us := [AV.slice (some (2, 0)) (n + 1) none]) (cx_goes _ _) allM6 (q := (.y :: (oc 5 (.y :: (.y :: (oc 1 [])))))) (c := (Cnd.tst _ true :: Cnd.tst _ true :: Cnd.tst _ true :: [])) (by kernel_rfl) ⟨h0, h1, h2, trivial⟩ (by kernel_rfl) (by kernel_rfl) rfl hb hu
theorem sized_e (n : Nat) (cs : List AV) (h0 : (iltB (Int.ofNat n) (Int.ofNat 512)) = false) (hb : List.all [Blk.cells true 5 n cs] Blk.plainB = true) (hu : List.all [AV.slice (some (0, 0)) n none] (okS [0]) = true) :
    CodeOK Try.prog (tyCx tys) 11 0 (roundOf (blockOf Try.f87 0)) { fr := frameOf 11 ([0].zip [AV.slice (some (0, 0)) n none]), ds := [], H := mkL [Blk.cells true 5 n cs] } (AX.exit 0) ⟨frameOf 11 ([0].zip [AV.slice (some (0, 0)) (n) (none)]), [], mkL [Blk.cells true 5 n cs]⟩ :=
  rows_run (g := 30) (k := 87) (f := 30) (sl := [0]) (ks := [0]) (us := [AV.slice (some (0, 0)) n none]) (cx_goes _ _) allM6 (q := (.z :: [])) (c := (Cnd.tst _ false :: [])) (by kernel_rfl) ⟨h0, trivial⟩ (by kernel_rfl) (by kernel_rfl) rfl hb hu
structure SzS where
  l : List UInt8
  i : Nat
def SzS.enc (p : SzS) : MSt := ([.slice (some (0, 0)) (p.l.length + p.i) none], [.cells true 5 (p.l.length + p.i) (ofBytes (p.l ++ List.replicate p.i 0))])
def SzS.fin (p : SzS) : AX × MSt := (.exit 0, [.slice (some (0, 0)) 512 none], [.cells true 5 512 (ofBytes (padB 512 p.l))])
def szL : MLoop := ⟨11, blockOf Try.f87 0, [0], fun vs bs => match vs, bs with
  | [.slice (some (0, 0)) n none], [.cells true 5 n' cs] =>
    some ([u8L cs, Nat.beq cs.length n, Nat.beq n' n, Nat.ble n 512], .normal, [.slice (some (0, 0)) 512 none], [.cells true 5 512 (kept (ofBytes (padB 512 (bytesL cs))))])
  | _, _ => none⟩
theorem szL_ok : szL.OK Try.prog (tyCx tys) 0 := by
  refine MLoop.ok_by (b := roundOf (blockOf Try.f87 0)) (by kernel_rfl) SzS.enc SzS.fin (fun p => p.l.length + p.i ≤ 512) (fun p => 512 - (p.l.length + p.i)) ?_ ?_
  · intro vs bs conds X vs' bs' h hc hin
    simp only [szL] at h
    split at h
    · rename_i n n' cs
      injection h with h; injection h with e1 h; injection h with e2 h; injection h with e3 e4
      rw [kept_eq] at e4
      subst e1; subst e2; subst e3; subst e4
      simp only [allTrue_cons] at hc
      obtain ⟨c1, c2, c3, c4, _⟩ := hc
      obtain ⟨b, rfl⟩ := u8L_iff.1 c1
      have c2 := eq_of_beq' c2
      have c3 := eq_of_beq' c3
      rw [ofBytes_length] at c2
      subst c3; subst c2
      rw [bytesL_ofBytes]
      refine ⟨⟨b, 0⟩, Nat.le_of_ble_eq_true c4, ?_, rfl, rfl, fun u hu => ?_, fun k hk => ?_⟩
      · simp [SzS.enc]
      · have : u = .slice (some (0, 0)) 512 none := by simpa using hu
        subst this; rfl
      · have : k = .cells true 5 512 (ofBytes (padB 512 b)) := by simpa using hk
        subst this
        simp [Blk.plainB, ofBytes_plainL]
    · cases h
  · rintro ⟨l, i⟩ hi
    simp only at hi
    by_cases hlt : l.length + i < 512
    · left
      refine ⟨⟨l, i + 1⟩, by show l.length + (i + 1) ≤ 512; omega, rfl, by simp only; omega, ?_⟩
      have h := sized_r (l.length + i) (ofBytes (l ++ List.replicate i 0)) (by rw [iltB_eq]; exact decide_eq_true (by show ((l.length + i : Nat) : Int) < ((512 : Nat) : Int); omega)) (room_of (by omega) (by decide)) (beq_of (by omega)) ?_ (by simp [okS, memB])
      · have e1 : ofBytes (l ++ List.replicate i 0) ++ [AV.int IntKind.u8 (Int.ofNat 0)] = ofBytes (l ++ List.replicate (i + 1) 0) := by
          have : [AV.int IntKind.u8 (Int.ofNat 0)] = ofBytes [0] := rfl
          rw [this, ← ofBytes_append, List.append_assoc, List.replicate_succ']
        have e2 : (ofBytes (l ++ List.replicate (i + 1) 0)).length = l.length + (i + 1) := by simp [ofBytes_length]
        rw [e1, e2] at h
        exact h
      · have e1 : ofBytes (l ++ List.replicate i 0) ++ [AV.int IntKind.u8 (Int.ofNat 0)] = ofBytes (l ++ List.replicate (i + 1) 0) := by
          have : [AV.int IntKind.u8 (Int.ofNat 0)] = ofBytes [0] := rfl
          rw [this, ← ofBytes_append, List.append_assoc, List.replicate_succ']
        rw [e1]
        simp [Blk.plainB, ofBytes_plainL]
    · right
      have hi : l.length + i = 512 := by omega
      refine ⟨by simp [SzS.fin], ?_⟩
      have h := sized_e (l.length + i) (ofBytes (l ++ List.replicate i 0)) (by rw [iltB_eq]; exact decide_eq_false (by show ¬ ((l.length + i : Nat) : Int) < ((512 : Nat) : Int); omega)) (by simp [Blk.plainB, ofBytes_plainL]) (by simp [okS, memB])
      have e1 : padB 512 l = l ++ List.replicate i 0 := by unfold padB; rw [show 512 - l.length = i by omega]
      show CodeOK _ _ _ _ _ _ _ ⟨frameOf 11 ([0].zip [.slice (some (0, 0)) 512 none]), [], mkL [.cells true 5 512 (ofBytes (padB 512 l))]⟩
      rw [e1]
      have e2 : SzS.enc ⟨l, i⟩ = ([.slice (some (0, 0)) 512 none], [.cells true 5 512 (ofBytes (l ++ List.replicate i 0))]) := by simp only [SzS.enc, hi]
      rw [e2]
      rw [hi] at h
      exact h
theorem made_0 (a0 : Bool) (l0 : Nat) (cs0 : List AV) (h0 : ((min l0 512).beq 0) = true) :
    ∃ h', aCall C6a 60 (Tgt.fn 44) [AV.fsl a0 l0 cs0] H0 = some (AV.slice (some (0, 0)) 512 (some 512), h') ∧ [0, 1, 2].map h'.get = [Blk.cells true 5 512 (ofBytes (List.replicate 512 0)), Blk.dead, Blk.dead] :=
  call_runT (q := (oc 4 (.y :: []))) (c := (Cnd.tst _ true :: [])) (by kernel_rfl) ⟨h0, trivial⟩
theorem made_1 (a0 : Bool) (l0 : Nat) (cs0 : List AV) (h0 : ((min l0 512).beq 0) = false) (h1 : (cs0.length.beq (l0.mul 1)) = true) (h2 : ((rowCut cs0 0 (min l0 512 * 1)).all AV.isCell) = true) (h3 : ((0 + (rowCut cs0 0 (min l0 512 * 1)).length).ble 512) = true) :
    ∃ h', aCall C6a 60 (Tgt.fn 44) [AV.fsl a0 l0 cs0] H0 = some (AV.slice (some (0, 0)) 512 (some 512), h') ∧ [0, 1, 2].map h'.get = [Blk.cells true 5 512 (rowSet (ofBytes (List.replicate 512 0)) 0 (rowCut cs0 0 (min l0 512 * 1))), Blk.dead, Blk.dead] :=
  call_runT (q := (oc 4 (.z :: (.y :: (.y :: (.y :: [])))))) (c := (Cnd.tst _ false :: Cnd.tst _ true :: Cnd.tst _ true :: Cnd.tst _ true :: [])) (by kernel_rfl) ⟨h0, h1, h2, h3, trivial⟩
end Go.Proofs.Ytecncappdnhbaaa
end
end

/- Commits: rows of the functions that say and parse them. -/
section
set_option autoImplicit false
set_option linter.unusedVariables false
set_option linter.unusedSimpArgs false
set_option maxRecDepth 100000
noncomputable section
namespace Go.Ab
open M
theorem over_ofBytes : ∀ (t z : List UInt8), t.length ≤ z.length → rowSet.over (ofBytes t) (ofBytes z) = ofBytes (t ++ z.drop t.length)
  | [], z, _ => by
    show rowSet.over [] (ofBytes z) = _
    cases z <;> rfl
  | a :: t, [], h => by simp at h
  | a :: t, b :: z, h => by
    show rowSet.over (.int .u8 a.toNat :: ofBytes t) (.int .u8 b.toNat :: ofBytes z) = _
    rw [rowSet.over, over_ofBytes t z (by simpa using h)]
    rfl
theorem rowSet0_ofBytes (t z : List UInt8) (h : t.length ≤ z.length) : rowSet (ofBytes z) 0 (ofBytes t) = ofBytes (t ++ z.drop t.length) := by
  rw [← over_ofBytes t z h]
  cases z <;> rfl
end Go.Ab
namespace Go.Proofs.Ytecncappdnhbaaa
open Go.Ab.M Go.Ab Go
def madeR : RSum := RSum.nb true fun us => match us with
  | [.fsl a l cs] => some ([u8L cs, Nat.beq cs.length l], fun n => .slice (some (n, 0)) 512 (some 512), [.cells true 5 512 (kept (ofBytes (padB 512 ((bytesL cs).take 512))))])
  | _ => none
theorem madeR_ok : RSum.Sound Try.prog tys 44 madeR := by
  refine RSum.soundT (cx_goes _ _) all6a (RSum.nb_ok fun us q v bs hm hc => ?_)
  split at hm
  · rename_i a l cs
    injection hm with hm; injection hm with e1 hm; injection hm with e2 e3; rw [kept_eq] at e3; subst e1; subst e2; subst e3
    simp only [allTrue_cons] at hc
    obtain ⟨c1, c2, _⟩ := hc
    obtain ⟨b, rfl⟩ := u8L_iff.1 c1
    have c2 := eq_of_beq' c2
    rw [ofBytes_length] at c2
    subst c2
    rw [bytesL_ofBytes]
    refine ⟨fun k hk => ?_, ?_⟩
    · have : k = .cells true 5 512 (ofBytes (padB 512 (b.take 512))) := by simpa using hk
      subst this
      simp only [Blk.plainOwn, ofBytes_plain, Bool.and_self]
    · have fin : ∀ (h' : Heap) (X : List AV), [0, 1, 2].map h'.get = [Blk.cells true 5 512 X, Blk.dead, Blk.dead] → [0].map h'.get = [Blk.cells true 5 512 X] := by
        intro h' X hb
        have hb : [h'.get 0, h'.get 1, h'.get 2] = [_, _, _] := hb
        injection hb with hb _
        show [h'.get 0] = _
        rw [hb]
      by_cases h0 : b.length = 0
      · have : b = [] := List.eq_nil_of_length_eq_zero h0
        subst this
        obtain ⟨h', h, hb⟩ := made_0 a 0 (ofBytes []) rfl
        exact ⟨60, h', [0], _, h, fin h' _ hb, sel_one 0, rfl, fun n ρ hρ => by
          have := hρ 0 0 rfl
          simp only [AV.ren, Option.map_some, this, Nat.add_zero]
          exact AV.Le.refl _⟩
      · have ec : rowCut (ofBytes b) 0 (min b.length 512 * 1) = ofBytes (b.take 512) := by
          rw [rowCut_ofBytes, List.drop_zero, Nat.mul_one]
          congr 1
          by_cases hb : b.length ≤ 512
          · rw [Nat.min_eq_left hb, List.take_of_length_le (Nat.le_refl _), List.take_of_length_le hb]
          · rw [Nat.min_eq_right (by omega)]
        have hl : (b.take 512).length ≤ 512 := by rw [List.length_take]; omega
        have key := made_1 a b.length (ofBytes b)
        rw [ec, rowSet0_ofBytes _ _ (by rw [List.length_replicate]; exact hl)] at key
        obtain ⟨h', h, hb⟩ := key (by rw [nbeq]; exact decide_eq_false (by omega)) (beq_of1 (ofBytes_length b)) (ofBytes_cells _) (ble_of (by rw [ofBytes_length]; omega))
        have ep : b.take 512 ++ (List.replicate 512 (0 : UInt8)).drop (b.take 512).length = padB 512 (b.take 512) := by
          unfold padB; rw [List.drop_replicate]
        rw [ep] at hb
        exact ⟨60, h', [0], _, h, fin h' _ hb, sel_one 0, rfl, fun n ρ hρ => by
          have := hρ 0 0 rfl
          simp only [AV.ren, Option.map_some, this, Nat.add_zero]
          exact AV.Le.refl _⟩
  · cases hm
end Go.Proofs.Ytecncappdnhbaaa
end
end

/- Shares: the loop that pads a share's head, in the document's text. -/
section
set_option autoImplicit false
set_option linter.unusedVariables false
set_option linter.unusedSimpArgs false
set_option maxRecDepth 100000
noncomputable section
namespace Go.Proofs.Ytecncappdnhbaaa
open Go.Ab.M Go.Ab Go
theorem sz2_r (n : Nat) (cs : List AV) (ds : List AV) (h0 : (iltB (Int.ofNat n) (Int.ofNat 32)) = true) (h1 : (appRoom 1 n 1) = true) (h2 : (n.beq (n * 1)) = true) (hb : List.all [Blk.cells true 5 (cs ++ [AV.int IntKind.u8 (Int.ofNat 0)]).length (cs ++ [AV.int IntKind.u8 (Int.ofNat 0)]), Blk.cells true 93 5 ds] Blk.plainB = true) (hu : List.all [AV.slice (some (3, 0)) (n + 1) none, AV.ptr (some (1, 0))] (okS [3, 1]) = true) :
    CodeOK Try.prog (tyCx tys) 52 0 (roundOf (blockOf Try.f52 0)) { fr := frameOf 52 ([3, 1].zip [AV.slice (some (0, 0)) n none, AV.ptr (some (1, 0))]), ds := [], H := mkL [Blk.cells true 5 n cs, Blk.cells true 93 5 ds] } (AX.normal) ⟨frameOf 52 ([3, 1].zip [AV.slice (some (0, 0)) (n + 1) (none), AV.ptr (some (1, 0))]), [], mkL [Blk.cells true 5 (cs ++ [AV.int IntKind.u8 (Int.ofNat 0)]).length (cs ++ [AV.int IntKind.u8 (Int.ofNat 0)]), Blk.cells true 93 5 ds]⟩ :=
  rows_run (g := 30) (k := 52) (f := 30) (sl := [3, 1]) (ks := [3, 1]) (us := [AV.slice (some (3, 0)) (n + 1) none, AV.ptr (some (1, 0))]) (cx_goes _ _) allM6 (q := (.y :: (oc 5 (.y :: (.y :: (oc 1 [])))))) (c := (Cnd.tst _ true :: Cnd.tst _ true :: Cnd.tst _ true :: [])) (by kernel_rfl) ⟨h0, h1, h2, trivial⟩ (by kernel_rfl) (by kernel_rfl) rfl hb hu
theorem sz2_e (n : Nat) (cs : List AV) (ds : List AV) (h0 : (iltB (Int.ofNat n) (Int.ofNat 32)) = false) (hb : List.all [Blk.cells true 5 n cs, Blk.cells true 93 5 ds] Blk.plainB = true) (hu : List.all [AV.slice (some (0, 0)) n none, AV.ptr (some (1, 0))] (okS [0, 1]) = true) :
    CodeOK Try.prog (tyCx tys) 52 0 (roundOf (blockOf Try.f52 0)) { fr := frameOf 52 ([3, 1].zip [AV.slice (some (0, 0)) n none, AV.ptr (some (1, 0))]), ds := [], H := mkL [Blk.cells true 5 n cs, Blk.cells true 93 5 ds] } (AX.exit 0) ⟨frameOf 52 ([3, 1].zip [AV.slice (some (0, 0)) (n) (none), AV.ptr (some (1, 0))]), [], mkL [Blk.cells true 5 n cs, Blk.cells true 93 5 ds]⟩ :=
  rows_run (g := 30) (k := 52) (f := 30) (sl := [3, 1]) (ks := [0, 1]) (us := [AV.slice (some (0, 0)) n none, AV.ptr (some (1, 0))]) (cx_goes _ _) allM6 (q := (.z :: [])) (c := (Cnd.tst _ false :: [])) (by kernel_rfl) ⟨h0, trivial⟩ (by kernel_rfl) (by kernel_rfl) rfl hb hu
structure Sz2 where
  l : List UInt8
  ds : List AV
  i : Nat
def Sz2.enc (p : Sz2) : MSt := ([.slice (some (0, 0)) (p.l.length + p.i) none, .ptr (some (1, 0))], [.cells true 5 (p.l.length + p.i) (ofBytes (p.l ++ List.replicate p.i 0)), .cells true 93 5 p.ds])
def Sz2.fin (p : Sz2) : AX × MSt := (.exit 0, [.slice (some (0, 0)) 32 none, .ptr (some (1, 0))], [.cells true 5 32 (ofBytes (padB 32 p.l)), .cells true 93 5 p.ds])
def sz2L : MLoop := ⟨52, blockOf Try.f52 0, [3, 1], fun vs bs => match vs, bs with
  | [.slice (some (0, 0)) n none, .ptr (some (1, 0))], [.cells true 5 n' cs, .cells true 93 5 ds] =>
    some ([u8L cs, Nat.beq cs.length n, Nat.beq n' n, Nat.ble n 32], .normal, [.slice (some (0, 0)) 32 none, .ptr (some (1, 0))], [.cells true 5 32 (kept (ofBytes (padB 32 (bytesL cs)))), .cells true 93 5 ds])
  | _, _ => none⟩
theorem sz2L_ok : sz2L.OK Try.prog (tyCx tys) 0 := by
  refine MLoop.ok_by (b := roundOf (blockOf Try.f52 0)) (by kernel_rfl) Sz2.enc Sz2.fin (fun p => p.l.length + p.i ≤ 32 ∧ AV.plainL p.ds = true) (fun p => 32 - (p.l.length + p.i)) ?_ ?_
  · intro vs bs conds X vs' bs' h hc hin
    simp only [sz2L] at h
    split at h
    · rename_i n n' cs ds
      injection h with h; injection h with e1 h; injection h with e2 h; injection h with e3 e4
      rw [kept_eq] at e4
      subst e1; subst e2; subst e3; subst e4
      simp only [allTrue_cons] at hc
      obtain ⟨c1, c2, c3, c4, _⟩ := hc
      obtain ⟨b, rfl⟩ := u8L_iff.1 c1
      have c2 := eq_of_beq' c2
      have c3 := eq_of_beq' c3
      rw [ofBytes_length] at c2
      subst c3; subst c2
      rw [bytesL_ofBytes]
      have hds : AV.plainL ds = true := by
        have := hin.2 (.cells true 93 5 ds) (by simp)
        simpa [Blk.plainB] using this
      refine ⟨⟨b, ds, 0⟩, ⟨Nat.le_of_ble_eq_true c4, hds⟩, ?_, rfl, rfl, fun u hu => ?_, fun k hk => ?_⟩
      · simp [Sz2.enc]
      · simp only [List.mem_cons, List.not_mem_nil, or_false] at hu
        rcases hu with rfl | rfl
        · rfl
        · rfl
      · simp only [List.mem_cons, List.not_mem_nil, or_false] at hk
        rcases hk with rfl | rfl
        · simp [Blk.plainB, ofBytes_plainL]
        · simp [Blk.plainB, hds]
    · cases h
  · rintro ⟨l, ds, i⟩ ⟨hi, hds⟩
    simp only at hi hds
    have e0 : ∀ i, ofBytes (l ++ List.replicate i 0) ++ [AV.int IntKind.u8 (Int.ofNat 0)] = ofBytes (l ++ List.replicate (i + 1) 0) := by
      intro i
      have : [AV.int IntKind.u8 (Int.ofNat 0)] = ofBytes [0] := rfl
      rw [this, ← ofBytes_append, List.append_assoc, List.replicate_succ']
    by_cases hlt : l.length + i < 32
    · left
      refine ⟨⟨l, ds, i + 1⟩, ⟨by show l.length + (i + 1) ≤ 32; omega, hds⟩, rfl, by simp only; omega, ?_⟩
      have h := sz2_r (l.length + i) (ofBytes (l ++ List.replicate i 0)) ds (by rw [iltB_eq]; exact decide_eq_true (by show ((l.length + i : Nat) : Int) < ((32 : Nat) : Int); omega)) (room_of (by omega) (by decide)) (beq_of (by omega)) (by rw [e0]; simp [Blk.plainB, ofBytes_plainL, hds]) (by simp [okS, memB]; rfl)
      have e2 : (ofBytes (l ++ List.replicate (i + 1) 0)).length = l.length + (i + 1) := by simp [ofBytes_length]
      rw [e0, e2] at h
      exact h
    · right
      have hi : l.length + i = 32 := by omega
      refine ⟨by simp [Sz2.fin], ?_⟩
      have h := sz2_e (l.length + i) (ofBytes (l ++ List.replicate i 0)) ds (by rw [iltB_eq]; exact decide_eq_false (by show ¬ ((l.length + i : Nat) : Int) < ((32 : Nat) : Int); omega)) (by simp [Blk.plainB, ofBytes_plainL, hds]) (by simp [okS, memB]; rfl)
      have e1 : padB 32 l = l ++ List.replicate i 0 := by unfold padB; rw [show 32 - l.length = i by omega]
      show CodeOK _ _ _ _ _ _ _ ⟨frameOf 52 ([3, 1].zip [.slice (some (0, 0)) 32 none, .ptr (some (1, 0))]), [], mkL [.cells true 5 32 (ofBytes (padB 32 l)), .cells true 93 5 ds]⟩
      rw [e1]
      have e2 : Sz2.enc ⟨l, ds, i⟩ = ([.slice (some (0, 0)) 32 none, .ptr (some (1, 0))], [.cells true 5 32 (ofBytes (l ++ List.replicate i 0)), .cells true 93 5 ds]) := by simp only [Sz2.enc, hi]
      rw [e2]
      rw [hi] at h
      exact h
end Go.Proofs.Ytecncappdnhbaaa
end
end

/- Shares: what their sectors are: the document's text. -/
section
set_option autoImplicit false
set_option linter.unusedVariables false
set_option linter.unusedSimpArgs false
set_option maxRecDepth 100000
noncomputable section
namespace Go.Ab
namespace M
def rightS (m p : Int) (n : Nat) : Bool := decide (m < 2) && decide (0 < p) && decide (n ≤ 480)
def headB (m p t g n : Nat) : List UInt8 := [UInt8.ofNat 76, UInt8.ofNat 83, UInt8.ofNat m, UInt8.ofNat p] ++ putB 4 t ++ putB 8 g ++ putB 2 n
def shareB (m p t g : Nat) (r : List UInt8) : List UInt8 := padB 512 (padB 32 (headB m p t g r.length) ++ r)
end M
open M
theorem headB_length (m p t g n : Nat) : (headB m p t g n).length = 18 := by simp [headB, putB_length]
theorem shareB_length (m p t g : Nat) (r : List UInt8) (h : r.length ≤ 480) : (shareB m p t g r).length = 512 := by
  unfold shareB
  refine padB_length 512 _ ?_
  rw [List.length_append, padB_length 32 _ (by rw [headB_length]; omega)]; omega
theorem cut_putB (w x : Nat) : rowCut (ofBytes (putB w x)) 0 w = ofBytes (putB w x) := by
  rw [rowCut_ofBytes, List.drop_zero, List.take_of_length_le (by rw [putB_length]; omega)]
theorem rightS_iff {m p : Int} {n : Nat} : rightS m p n = true ↔ (m < 2 ∧ 0 < p) ∧ n ≤ 480 := by simp [rightS]
end Go.Ab
namespace Go.Proofs.Ytecncappdnhbaaa
open Go.Ab.M Go.Ab Go
theorem bits32_ok : RSum.Sound Try.prog tys 65 (RSum.const (.int .i64 (Int.ofNat 32))) := RSum.sound (cx_goes _ _) all0 (RSum.const_ok rfl (let ⟨h', h, _⟩ := bits_u32; ⟨h', h⟩))
theorem bits16_ok : RSum.Sound Try.prog tys 64 (RSum.const (.int .i64 (Int.ofNat 16))) := RSum.sound (cx_goes _ _) all0 (RSum.const_ok rfl (let ⟨h', h, _⟩ := bits_u16; ⟨h', h⟩))
abbrev T7a : TTab := [(80, putKu64.rt), (78, putKu32.rt), (62, putKu16.rt), (49, rputR.rt), (32, zeroR.rt), (81, getRu64.rt), (79, getRu32.rt), (77, getRu16.rt), (76, rgetR.rt), (67, cloneR.rt), (66, (RSum.const (.int .i64 (Int.ofNat 64))).rt), (65, (RSum.const (.int .i64 (Int.ofNat 32))).rt), (64, (RSum.const (.int .i64 (Int.ofNat 16))).rt)]
theorem T7a_ok : TOK Try.prog tys T7a := ⟨RSum.rt_sound putKu64_ok, RSum.rt_sound putKu32_ok, RSum.rt_sound putKu16_ok, RSum.rt_sound rputR_ok, RSum.rt_sound zeroR_ok, RSum.rt_sound getRu64_ok, RSum.rt_sound getRu32_ok, RSum.rt_sound getRu16_ok, RSum.rt_sound rgetR_ok, RSum.rt_sound cloneR_ok, RSum.rt_sound bits64_ok, RSum.rt_sound bits32_ok, RSum.rt_sound bits16_ok, trivial⟩
abbrev C7a := mkCxT tys fns T7a []
theorem all7a : SumAll Try.prog C7a := sums_allT T7a_ok trivial
abbrev M7 : MTab := [((87, 0), szL), ((52, 0), sz2L)]
abbrev C7 := mkCxT tys fns T7a M7
theorem all7 : SumAll Try.prog C7 := sums_allT T7a_ok ⟨szL_ok, sz2L_ok, trivial⟩
theorem rs_1 (m : Int) (p : Int) (t : Int) (g : Int) (r : List UInt8) (h0 : (iltB (Int.ofNat 1) (AV.int IntKind.u8 m).intOf) = true) :
    ∃ h', aCall C7 60 (Tgt.fn 52) [AV.agg [AV.int IntKind.u8 m, AV.int IntKind.u8 p, AV.int IntKind.u32 t, AV.int IntKind.u64 g, AV.str r]] H0 = some (AV.str [], h') ∧ [].map h'.get = [] :=
  call_runT (q := (oc 3 (.y :: (.y :: (.y :: (.y :: (oc 6 []))))))) (c := (Cnd.tst _ true :: Cnd.tst _ true :: Cnd.tst _ true :: Cnd.tst _ true :: [])) (by kernel_rfl) ⟨h0, h0, h0, h0, trivial⟩
theorem rs_2 (m : Int) (p : Int) (t : Int) (g : Int) (r : List UInt8) (h0 : (iltB (Int.ofNat 1) (AV.int IntKind.u8 m).intOf) = false) (h1 : (ieqB (AV.int IntKind.u8 p).intOf (Int.ofNat 0)) = true) :
    ∃ h', aCall C7 60 (Tgt.fn 52) [AV.agg [AV.int IntKind.u8 m, AV.int IntKind.u8 p, AV.int IntKind.u32 t, AV.int IntKind.u64 g, AV.str r]] H0 = some (AV.str [], h') ∧ [].map h'.get = [] :=
  call_runT (q := (oc 3 (.z :: (.z :: (oc 3 (.z :: (.z :: (.y :: (.y :: (.y :: (.y :: (.y :: (oc 1 []))))))))))))) (c := (Cnd.tst _ false :: Cnd.tst _ false :: Cnd.tst _ false :: Cnd.tst _ false :: Cnd.tst _ true :: Cnd.tst _ true :: Cnd.tst _ true :: Cnd.tst _ true :: Cnd.tst _ true :: [])) (by kernel_rfl) ⟨h0, h0, h0, h0, h1, h1, h1, h1, h1, trivial⟩
theorem rs_3 (m : Int) (p : Int) (t : Int) (g : Int) (r : List UInt8) (h0 : (iltB (Int.ofNat 1) (AV.int IntKind.u8 m).intOf) = false) (h1 : (ieqB (AV.int IntKind.u8 p).intOf (Int.ofNat 0)) = false) (h2 : (iltB (Int.ofNat 480) (Int.ofNat (AV.str r).strOf.length)) = true) :
    ∃ h', aCall C7 60 (Tgt.fn 52) [AV.agg [AV.int IntKind.u8 m, AV.int IntKind.u8 p, AV.int IntKind.u32 t, AV.int IntKind.u64 g, AV.str r]] H0 = some (AV.str [], h') ∧ [].map h'.get = [] :=
  call_runT (q := (oc 3 (.z :: (.z :: (oc 3 (.z :: (.z :: (.z :: (.z :: (oc 3 (.z :: (.z :: (.z :: (.y :: [])))))))))))))) (c := (Cnd.tst _ false :: Cnd.tst _ false :: Cnd.tst _ false :: Cnd.tst _ false :: Cnd.tst _ false :: Cnd.tst _ false :: Cnd.tst _ false :: Cnd.tst _ false :: Cnd.tst _ false :: Cnd.tst _ true :: [])) (by kernel_rfl) ⟨h0, h0, h0, h0, h1, h1, h1, h1, h1, h2, trivial⟩
theorem rs_e (m : Int) (p : Int) (t : Int) (g : Int) (r : List UInt8) (h0 : (iltB (Int.ofNat 1) (AV.int IntKind.u8 m).intOf) = false) (h1 : (ieqB (AV.int IntKind.u8 p).intOf (Int.ofNat 0)) = false) (h2 : (iltB (Int.ofNat 480) (Int.ofNat (AV.str r).strOf.length)) = false) (h3 : (ileB (Int.ofNat 0) (wrapA IntKind.u64 (AV.int IntKind.u32 t).intOf)) = true) (h4 : (iltB (wrapA IntKind.u64 (AV.int IntKind.u32 t).intOf) (Int.ofNat 18446744073709551616)) = true) (h5 : (ileB (Int.ofNat 0) (AV.int IntKind.u64 g).intOf) = true) (h6 : (iltB (AV.int IntKind.u64 g).intOf (Int.ofNat 18446744073709551616)) = true) (h7 : (([AV.int IntKind.u8 (Int.ofNat 76), AV.int IntKind.u8 (Int.ofNat 83), AV.int IntKind.u8 (AV.int IntKind.u8 m).intOf, AV.int IntKind.u8 (AV.int IntKind.u8 p).intOf] ++ rowCut (kept (ofBytes (putB 4 (wrapA IntKind.u64 (AV.int IntKind.u32 t).intOf).toNat))) 0 4).length.beq 8) = true) (h8 : ((rowCut (kept (ofBytes (putB 8 (AV.int IntKind.u64 g).intOf.toNat))) 0 8).all AV.isCell) = true) (h9 : (iltB (wrapA IntKind.u64 (Int.ofNat (AV.str r).strOf.length)) (Int.ofNat 18446744073709551616)) = true) (h10 : (([AV.int IntKind.u8 (Int.ofNat 76), AV.int IntKind.u8 (Int.ofNat 83), AV.int IntKind.u8 (AV.int IntKind.u8 m).intOf, AV.int IntKind.u8 (AV.int IntKind.u8 p).intOf] ++ rowCut (kept (ofBytes (putB 4 (wrapA IntKind.u64 (AV.int IntKind.u32 t).intOf).toNat))) 0 4 ++ rowCut (kept (ofBytes (putB 8 (AV.int IntKind.u64 g).intOf.toNat))) 0 8).length.beq 16) = true) (h11 : ((rowCut (kept (ofBytes (putB 2 (wrapA IntKind.u64 (Int.ofNat (AV.str r).strOf.length)).toNat))) 0 2).all AV.isCell) = true) (h12 : (AV.plainL ([AV.int IntKind.u8 (Int.ofNat 76), AV.int IntKind.u8 (Int.ofNat 83), AV.int IntKind.u8 (AV.int IntKind.u8 m).intOf, AV.int IntKind.u8 (AV.int IntKind.u8 p).intOf] ++ rowCut (kept (ofBytes (putB 4 (wrapA IntKind.u64 (AV.int IntKind.u32 t).intOf).toNat))) 0 4 ++ rowCut (kept (ofBytes (putB 8 (AV.int IntKind.u64 g).intOf.toNat))) 0 8 ++ rowCut (kept (ofBytes (putB 2 (wrapA IntKind.u64 (Int.ofNat (AV.str r).strOf.length)).toNat))) 0 2)) = true) (h13 : (u8L ([AV.int IntKind.u8 (Int.ofNat 76), AV.int IntKind.u8 (Int.ofNat 83), AV.int IntKind.u8 (AV.int IntKind.u8 m).intOf, AV.int IntKind.u8 (AV.int IntKind.u8 p).intOf] ++ rowCut (kept (ofBytes (putB 4 (wrapA IntKind.u64 (AV.int IntKind.u32 t).intOf).toNat))) 0 4 ++ rowCut (kept (ofBytes (putB 8 (AV.int IntKind.u64 g).intOf.toNat))) 0 8 ++ rowCut (kept (ofBytes (putB 2 (wrapA IntKind.u64 (Int.ofNat (AV.str r).strOf.length)).toNat))) 0 2)) = true) (h14 : (([AV.int IntKind.u8 (Int.ofNat 76), AV.int IntKind.u8 (Int.ofNat 83), AV.int IntKind.u8 (AV.int IntKind.u8 m).intOf, AV.int IntKind.u8 (AV.int IntKind.u8 p).intOf] ++ rowCut (kept (ofBytes (putB 4 (wrapA IntKind.u64 (AV.int IntKind.u32 t).intOf).toNat))) 0 4 ++ rowCut (kept (ofBytes (putB 8 (AV.int IntKind.u64 g).intOf.toNat))) 0 8 ++ rowCut (kept (ofBytes (putB 2 (wrapA IntKind.u64 (Int.ofNat (AV.str r).strOf.length)).toNat))) 0 2).length.beq 18) = true) (h15 : ((AV.str r).strOf.length.beq 0) = true) (h16 : (AV.plainL (kept (ofBytes (padB 32 (bytesL ([AV.int IntKind.u8 (Int.ofNat 76), AV.int IntKind.u8 (Int.ofNat 83), AV.int IntKind.u8 (AV.int IntKind.u8 m).intOf, AV.int IntKind.u8 (AV.int IntKind.u8 p).intOf] ++ rowCut (kept (ofBytes (putB 4 (wrapA IntKind.u64 (AV.int IntKind.u32 t).intOf).toNat))) 0 4 ++ rowCut (kept (ofBytes (putB 8 (AV.int IntKind.u64 g).intOf.toNat))) 0 8 ++ rowCut (kept (ofBytes (putB 2 (wrapA IntKind.u64 (Int.ofNat (AV.str r).strOf.length)).toNat))) 0 2)))))) = true) (h17 : (u8L (kept (ofBytes (padB 32 (bytesL ([AV.int IntKind.u8 (Int.ofNat 76), AV.int IntKind.u8 (Int.ofNat 83), AV.int IntKind.u8 (AV.int IntKind.u8 m).intOf, AV.int IntKind.u8 (AV.int IntKind.u8 p).intOf] ++ rowCut (kept (ofBytes (putB 4 (wrapA IntKind.u64 (AV.int IntKind.u32 t).intOf).toNat))) 0 4 ++ rowCut (kept (ofBytes (putB 8 (AV.int IntKind.u64 g).intOf.toNat))) 0 8 ++ rowCut (kept (ofBytes (putB 2 (wrapA IntKind.u64 (Int.ofNat (AV.str r).strOf.length)).toNat))) 0 2)))))) = true) (h18 : ((kept (ofBytes (padB 32 (bytesL ([AV.int IntKind.u8 (Int.ofNat 76), AV.int IntKind.u8 (Int.ofNat 83), AV.int IntKind.u8 (AV.int IntKind.u8 m).intOf, AV.int IntKind.u8 (AV.int IntKind.u8 p).intOf] ++ rowCut (kept (ofBytes (putB 4 (wrapA IntKind.u64 (AV.int IntKind.u32 t).intOf).toNat))) 0 4 ++ rowCut (kept (ofBytes (putB 8 (AV.int IntKind.u64 g).intOf.toNat))) 0 8 ++ rowCut (kept (ofBytes (putB 2 (wrapA IntKind.u64 (Int.ofNat (AV.str r).strOf.length)).toNat))) 0 2))))).length.beq 32) = true) (h19 : ((bytesOf (rowCut (kept (ofBytes (padB 512 (bytesL (kept (ofBytes (padB 32 (bytesL ([AV.int IntKind.u8 (Int.ofNat 76), AV.int IntKind.u8 (Int.ofNat 83), AV.int IntKind.u8 (AV.int IntKind.u8 m).intOf, AV.int IntKind.u8 (AV.int IntKind.u8 p).intOf] ++ rowCut (kept (ofBytes (putB 4 (wrapA IntKind.u64 (AV.int IntKind.u32 t).intOf).toNat))) 0 4 ++ rowCut (kept (ofBytes (putB 8 (AV.int IntKind.u64 g).intOf.toNat))) 0 8 ++ rowCut (kept (ofBytes (putB 2 (wrapA IntKind.u64 (Int.ofNat (AV.str r).strOf.length)).toNat))) 0 2))))))))) 0 512)).isSome) = true) :
    ∃ h', aCall C7 60 (Tgt.fn 52) [AV.agg [AV.int IntKind.u8 m, AV.int IntKind.u8 p, AV.int IntKind.u32 t, AV.int IntKind.u64 g, AV.str r]] H0 = some (AV.str ((bytesOf (rowCut (kept (ofBytes (padB 512 (bytesL (kept (ofBytes (padB 32 (bytesL ([AV.int IntKind.u8 (Int.ofNat 76), AV.int IntKind.u8 (Int.ofNat 83), AV.int IntKind.u8 (AV.int IntKind.u8 m).intOf, AV.int IntKind.u8 (AV.int IntKind.u8 p).intOf] ++ rowCut (kept (ofBytes (putB 4 (wrapA IntKind.u64 (AV.int IntKind.u32 t).intOf).toNat))) 0 4 ++ rowCut (kept (ofBytes (putB 8 (AV.int IntKind.u64 g).intOf.toNat))) 0 8 ++ rowCut (kept (ofBytes (putB 2 (wrapA IntKind.u64 (Int.ofNat (AV.str r).strOf.length)).toNat))) 0 2))))))))) 0 512)).getD []), h') ∧ [].map h'.get = [] :=
  call_runT (q := (oc 3 (.z :: (.z :: (oc 3 (.z :: (.z :: (.z :: (.z :: (oc 3 (.z :: (.z :: (.z :: (.z :: (oc 19 (.y :: (.y :: (oc 9 (.y :: (.y :: (oc 3 (.y :: (.y :: (oc 5 (.y :: (oc 3 (.y :: (.y :: (oc 2 (.y :: (oc 2 (.y :: (.y :: (.y :: (oc 4 (.y :: (oc 2 (.y :: (.y :: (.y :: (oc 3 (.y :: [])))))))))))))))))))))))))))))))))))))))))) (c := (Cnd.tst _ false :: Cnd.tst _ false :: Cnd.tst _ false :: Cnd.tst _ false :: Cnd.tst _ false :: Cnd.tst _ false :: Cnd.tst _ false :: Cnd.tst _ false :: Cnd.tst _ false :: Cnd.tst _ false :: Cnd.tst _ true :: Cnd.tst _ true :: Cnd.tst _ true :: Cnd.tst _ true :: Cnd.tst _ true :: Cnd.tst _ true :: Cnd.tst _ true :: Cnd.tst _ true :: Cnd.tst _ true :: Cnd.code ((52, 0), sz2L).snd.lsumS.fst ((52, 0), sz2L).snd.lsumS.fst :: Cnd.tst _ true :: Cnd.tst _ true :: Cnd.tst _ true :: Cnd.tst _ true :: Cnd.tst _ true :: Cnd.code ((87, 0), szL).snd.lsumS.fst ((87, 0), szL).snd.lsumS.fst :: Cnd.tst _ true :: Cnd.tst _ true :: Cnd.tst _ true :: Cnd.tst _ true :: [])) (by kernel_rfl) ⟨h0, h0, h0, h0, h1, h1, h1, h1, h1, h2, h3, h4, h5, h6, h7, h8, h9, h10, h11, rfl, h12, h13, h14, h14, h15, rfl, h16, h17, h18, h19, trivial⟩
theorem rs_ok (m : Int) (p : Int) (t : Int) (g : Int) (r : List UInt8) (h0 : (iltB (Int.ofNat 1) (AV.int IntKind.u8 m).intOf) = false) (h1 : (ieqB (AV.int IntKind.u8 p).intOf (Int.ofNat 0)) = false) (h2 : (iltB (Int.ofNat 480) (Int.ofNat (AV.str r).strOf.length)) = false) (h3 : (ileB (Int.ofNat 0) (wrapA IntKind.u64 (AV.int IntKind.u32 t).intOf)) = true) (h4 : (iltB (wrapA IntKind.u64 (AV.int IntKind.u32 t).intOf) (Int.ofNat 18446744073709551616)) = true) (h5 : (ileB (Int.ofNat 0) (AV.int IntKind.u64 g).intOf) = true) (h6 : (iltB (AV.int IntKind.u64 g).intOf (Int.ofNat 18446744073709551616)) = true) (h7 : (([AV.int IntKind.u8 (Int.ofNat 76), AV.int IntKind.u8 (Int.ofNat 83), AV.int IntKind.u8 (AV.int IntKind.u8 m).intOf, AV.int IntKind.u8 (AV.int IntKind.u8 p).intOf] ++ rowCut (kept (ofBytes (putB 4 (wrapA IntKind.u64 (AV.int IntKind.u32 t).intOf).toNat))) 0 4).length.beq 8) = true) (h8 : ((rowCut (kept (ofBytes (putB 8 (AV.int IntKind.u64 g).intOf.toNat))) 0 8).all AV.isCell) = true) (h9 : (iltB (wrapA IntKind.u64 (Int.ofNat (AV.str r).strOf.length)) (Int.ofNat 18446744073709551616)) = true) (h10 : (([AV.int IntKind.u8 (Int.ofNat 76), AV.int IntKind.u8 (Int.ofNat 83), AV.int IntKind.u8 (AV.int IntKind.u8 m).intOf, AV.int IntKind.u8 (AV.int IntKind.u8 p).intOf] ++ rowCut (kept (ofBytes (putB 4 (wrapA IntKind.u64 (AV.int IntKind.u32 t).intOf).toNat))) 0 4 ++ rowCut (kept (ofBytes (putB 8 (AV.int IntKind.u64 g).intOf.toNat))) 0 8).length.beq 16) = true) (h11 : ((rowCut (kept (ofBytes (putB 2 (wrapA IntKind.u64 (Int.ofNat (AV.str r).strOf.length)).toNat))) 0 2).all AV.isCell) = true) (h12 : (AV.plainL ([AV.int IntKind.u8 (Int.ofNat 76), AV.int IntKind.u8 (Int.ofNat 83), AV.int IntKind.u8 (AV.int IntKind.u8 m).intOf, AV.int IntKind.u8 (AV.int IntKind.u8 p).intOf] ++ rowCut (kept (ofBytes (putB 4 (wrapA IntKind.u64 (AV.int IntKind.u32 t).intOf).toNat))) 0 4 ++ rowCut (kept (ofBytes (putB 8 (AV.int IntKind.u64 g).intOf.toNat))) 0 8 ++ rowCut (kept (ofBytes (putB 2 (wrapA IntKind.u64 (Int.ofNat (AV.str r).strOf.length)).toNat))) 0 2)) = true) (h13 : (u8L ([AV.int IntKind.u8 (Int.ofNat 76), AV.int IntKind.u8 (Int.ofNat 83), AV.int IntKind.u8 (AV.int IntKind.u8 m).intOf, AV.int IntKind.u8 (AV.int IntKind.u8 p).intOf] ++ rowCut (kept (ofBytes (putB 4 (wrapA IntKind.u64 (AV.int IntKind.u32 t).intOf).toNat))) 0 4 ++ rowCut (kept (ofBytes (putB 8 (AV.int IntKind.u64 g).intOf.toNat))) 0 8 ++ rowCut (kept (ofBytes (putB 2 (wrapA IntKind.u64 (Int.ofNat (AV.str r).strOf.length)).toNat))) 0 2)) = true) (h14 : (([AV.int IntKind.u8 (Int.ofNat 76), AV.int IntKind.u8 (Int.ofNat 83), AV.int IntKind.u8 (AV.int IntKind.u8 m).intOf, AV.int IntKind.u8 (AV.int IntKind.u8 p).intOf] ++ rowCut (kept (ofBytes (putB 4 (wrapA IntKind.u64 (AV.int IntKind.u32 t).intOf).toNat))) 0 4 ++ rowCut (kept (ofBytes (putB 8 (AV.int IntKind.u64 g).intOf.toNat))) 0 8 ++ rowCut (kept (ofBytes (putB 2 (wrapA IntKind.u64 (Int.ofNat (AV.str r).strOf.length)).toNat))) 0 2).length.beq 18) = true) (h15 : ((AV.str r).strOf.length.beq 0) = false) (h16 : (appRoom 1 32 (AV.str r).strOf.length) = true) (h17 : ((ofBytes (AV.str r).strOf).all AV.isCell) = true) (h18 : (AV.plainL (kept (ofBytes (padB 32 (bytesL ([AV.int IntKind.u8 (Int.ofNat 76), AV.int IntKind.u8 (Int.ofNat 83), AV.int IntKind.u8 (AV.int IntKind.u8 m).intOf, AV.int IntKind.u8 (AV.int IntKind.u8 p).intOf] ++ rowCut (kept (ofBytes (putB 4 (wrapA IntKind.u64 (AV.int IntKind.u32 t).intOf).toNat))) 0 4 ++ rowCut (kept (ofBytes (putB 8 (AV.int IntKind.u64 g).intOf.toNat))) 0 8 ++ rowCut (kept (ofBytes (putB 2 (wrapA IntKind.u64 (Int.ofNat (AV.str r).strOf.length)).toNat))) 0 2)))) ++ ofBytes (AV.str r).strOf)) = true) (h19 : (u8L (kept (ofBytes (padB 32 (bytesL ([AV.int IntKind.u8 (Int.ofNat 76), AV.int IntKind.u8 (Int.ofNat 83), AV.int IntKind.u8 (AV.int IntKind.u8 m).intOf, AV.int IntKind.u8 (AV.int IntKind.u8 p).intOf] ++ rowCut (kept (ofBytes (putB 4 (wrapA IntKind.u64 (AV.int IntKind.u32 t).intOf).toNat))) 0 4 ++ rowCut (kept (ofBytes (putB 8 (AV.int IntKind.u64 g).intOf.toNat))) 0 8 ++ rowCut (kept (ofBytes (putB 2 (wrapA IntKind.u64 (Int.ofNat (AV.str r).strOf.length)).toNat))) 0 2)))) ++ ofBytes (AV.str r).strOf)) = true) (h20 : ((kept (ofBytes (padB 32 (bytesL ([AV.int IntKind.u8 (Int.ofNat 76), AV.int IntKind.u8 (Int.ofNat 83), AV.int IntKind.u8 (AV.int IntKind.u8 m).intOf, AV.int IntKind.u8 (AV.int IntKind.u8 p).intOf] ++ rowCut (kept (ofBytes (putB 4 (wrapA IntKind.u64 (AV.int IntKind.u32 t).intOf).toNat))) 0 4 ++ rowCut (kept (ofBytes (putB 8 (AV.int IntKind.u64 g).intOf.toNat))) 0 8 ++ rowCut (kept (ofBytes (putB 2 (wrapA IntKind.u64 (Int.ofNat (AV.str r).strOf.length)).toNat))) 0 2)))) ++ ofBytes (AV.str r).strOf).length.beq (32 + (AV.str r).strOf.length)) = true) (h21 : ((32 + (AV.str r).strOf.length).ble 512) = true) (h22 : ((bytesOf (rowCut (kept (ofBytes (padB 512 (bytesL (kept (ofBytes (padB 32 (bytesL ([AV.int IntKind.u8 (Int.ofNat 76), AV.int IntKind.u8 (Int.ofNat 83), AV.int IntKind.u8 (AV.int IntKind.u8 m).intOf, AV.int IntKind.u8 (AV.int IntKind.u8 p).intOf] ++ rowCut (kept (ofBytes (putB 4 (wrapA IntKind.u64 (AV.int IntKind.u32 t).intOf).toNat))) 0 4 ++ rowCut (kept (ofBytes (putB 8 (AV.int IntKind.u64 g).intOf.toNat))) 0 8 ++ rowCut (kept (ofBytes (putB 2 (wrapA IntKind.u64 (Int.ofNat (AV.str r).strOf.length)).toNat))) 0 2)))) ++ ofBytes (AV.str r).strOf))))) 0 512)).isSome) = true) :
    ∃ h', aCall C7 60 (Tgt.fn 52) [AV.agg [AV.int IntKind.u8 m, AV.int IntKind.u8 p, AV.int IntKind.u32 t, AV.int IntKind.u64 g, AV.str r]] H0 = some (AV.str ((bytesOf (rowCut (kept (ofBytes (padB 512 (bytesL (kept (ofBytes (padB 32 (bytesL ([AV.int IntKind.u8 (Int.ofNat 76), AV.int IntKind.u8 (Int.ofNat 83), AV.int IntKind.u8 (AV.int IntKind.u8 m).intOf, AV.int IntKind.u8 (AV.int IntKind.u8 p).intOf] ++ rowCut (kept (ofBytes (putB 4 (wrapA IntKind.u64 (AV.int IntKind.u32 t).intOf).toNat))) 0 4 ++ rowCut (kept (ofBytes (putB 8 (AV.int IntKind.u64 g).intOf.toNat))) 0 8 ++ rowCut (kept (ofBytes (putB 2 (wrapA IntKind.u64 (Int.ofNat (AV.str r).strOf.length)).toNat))) 0 2)))) ++ ofBytes (AV.str r).strOf))))) 0 512)).getD []), h') ∧ [].map h'.get = [] :=
  call_runT (q := (oc 3 (.z :: (.z :: (oc 3 (.z :: (.z :: (.z :: (.z :: (oc 3 (.z :: (.z :: (.z :: (.z :: (oc 19 (.y :: (.y :: (oc 9 (.y :: (.y :: (oc 3 (.y :: (.y :: (oc 5 (.y :: (oc 3 (.y :: (.y :: (oc 2 (.y :: (oc 2 (.y :: (.y :: (.y :: (oc 4 (.z :: (.y :: (oc 1 (.y :: (oc 2 (.y :: (.y :: (.y :: (.y :: (.y :: (oc 1 (.y :: []))))))))))))))))))))))))))))))))))))))))))))))) (c := (Cnd.tst _ false :: Cnd.tst _ false :: Cnd.tst _ false :: Cnd.tst _ false :: Cnd.tst _ false :: Cnd.tst _ false :: Cnd.tst _ false :: Cnd.tst _ false :: Cnd.tst _ false :: Cnd.tst _ false :: Cnd.tst _ true :: Cnd.tst _ true :: Cnd.tst _ true :: Cnd.tst _ true :: Cnd.tst _ true :: Cnd.tst _ true :: Cnd.tst _ true :: Cnd.tst _ true :: Cnd.tst _ true :: Cnd.code ((52, 0), sz2L).snd.lsumS.fst ((52, 0), sz2L).snd.lsumS.fst :: Cnd.tst _ true :: Cnd.tst _ true :: Cnd.tst _ true :: Cnd.tst _ true :: Cnd.tst _ false :: Cnd.tst _ true :: Cnd.tst _ true :: Cnd.code ((87, 0), szL).snd.lsumS.fst ((87, 0), szL).snd.lsumS.fst :: Cnd.tst _ true :: Cnd.tst _ true :: Cnd.tst _ true :: Cnd.tst _ true :: Cnd.tst _ true :: Cnd.tst _ true :: [])) (by kernel_rfl) ⟨h0, h0, h0, h0, h1, h1, h1, h1, h1, h2, h3, h4, h5, h6, h7, h8, h9, h10, h11, rfl, h12, h13, h14, h14, h15, h16, h17, rfl, h18, h19, h20, h20, h21, h22, trivial⟩
def refSy : RSum := RSum.pl true fun us => match us with
  | [.agg [.int .u8 m, .int .u8 p, .int .u32 t, .int .u64 g, .str r]] => some ([ileB (Int.ofNat 0) m, ileB (Int.ofNat 0) p, iltB p (Int.ofNat 256), ileB (Int.ofNat 0) t, iltB t (Int.ofNat 4294967296), ileB (Int.ofNat 0) g, iltB g (Int.ofNat 18446744073709551616), kept (rightS m p r.length)], .str (kept (shareB m.toNat p.toNat t.toNat g.toNat r)))
  | _ => none
def refSn : RSum := RSum.pl true fun us => match us with
  | [.agg [.int .u8 m, .int .u8 p, .int .u32 t, .int .u64 g, .str r]] => some ([ileB (Int.ofNat 0) p, Nat.ble r.length 1000000, kept (!rightS m p r.length)], .str [])
  | _ => none
theorem refSn_ok : RSum.Sound Try.prog tys 52 refSn := by
  refine RSum.soundT (cx_goes _ _) all7 (RSum.pl_ok fun us q v hm hc => ?_)
  split at hm
  · rename_i m p t g r
    injection hm with hm; injection hm with e1 e2; subst e1; subst e2
    simp only [allTrue_cons, kept_eq, Bool.not_eq_true', ileB_eq, decide_eq_true_eq] at hc
    obtain ⟨hp, hl, hc, _⟩ := hc
    have hp : 0 ≤ p := hp
    by_cases h1 : m < 2
    case neg =>
      obtain ⟨h', h, _⟩ := rs_1 m p t g r (by rw [iltB_eq]; exact decide_eq_true (by show (1 : Int) < m; omega))
      exact ⟨rfl, 60, h', h⟩
    have k1 : iltB (Int.ofNat 1) (AV.int IntKind.u8 m).intOf = false := by rw [iltB_eq]; exact decide_eq_false (by show ¬ (1 : Int) < m; omega)
    by_cases h2 : 0 < p
    case neg =>
      have : p = 0 := by omega
      subst this
      obtain ⟨h', h, _⟩ := rs_2 m 0 t g r k1 rfl
      exact ⟨rfl, 60, h', h⟩
    have k2 : ieqB (AV.int IntKind.u8 p).intOf (Int.ofNat 0) = false := by rw [ieqB_eq, beq_eq_false_iff_ne]; show p ≠ 0; omega
    have h3 : ¬ r.length ≤ 480 := fun h => by rw [rightS_iff.2 ⟨⟨h1, h2⟩, h⟩] at hc; cases hc
    obtain ⟨h', h, _⟩ := rs_3 m p t g r k1 k2 (by rw [iltB_eq]; exact decide_eq_true (by show ((480 : Nat) : Int) < (r.length : Int); omega))
    exact ⟨rfl, 60, h', h⟩
  · cases hm
set_option maxHeartbeats 4000000 in
theorem refSy_ok : RSum.Sound Try.prog tys 52 refSy := by
  refine RSum.soundT (cx_goes _ _) all7 (RSum.pl_ok fun us q v hm hc => ?_)
  split at hm
  · rename_i m p t g r
    injection hm with hm; injection hm with e1 e2; subst e1; subst e2
    simp only [allTrue_cons, kept_eq, ileB_eq, iltB_eq, decide_eq_true_eq, rightS_iff] at hc
    obtain ⟨c1, c2, c3, c4, c5, c6, c7, ⟨⟨c8, c9⟩, c10⟩, _⟩ := hc
    have c1 : 0 ≤ m := c1
    have c2 : 0 ≤ p := c2
    have c3 : p < 256 := c3
    have c4 : 0 ≤ t := c4
    have c5 : t < 4294967296 := c5
    have c6 : 0 ≤ g := c6
    have c7 : g < 18446744073709551616 := c7
    have k1 : iltB (Int.ofNat 1) m = false := by rw [iltB_eq]; exact decide_eq_false (by show ¬ (1 : Int) < m; omega)
    have k2 : ieqB p (Int.ofNat 0) = false := by rw [ieqB_eq, beq_eq_false_iff_ne]; show p ≠ 0; omega
    have k3 : iltB (Int.ofNat 480) (Int.ofNat r.length) = false := by rw [iltB_eq]; exact decide_eq_false (by show ¬ ((480 : Nat) : Int) < (r.length : Int); omega)
    have k6 : ileB (Int.ofNat 0) g = true := by rw [ileB_eq]; exact decide_eq_true c6
    have k7 : iltB g (Int.ofNat 18446744073709551616) = true := by rw [iltB_eq]; exact decide_eq_true c7
    have wt : wrapA .u64 t = t := by
      have := wrapA_nat .u64 t.toNat (by show _ < 18446744073709551616; omega)
      rwa [show ((t.toNat : Nat) : Int) = t by omega] at this
    have wl : wrapA .u64 (Int.ofNat r.length) = (r.length : Int) := wrapA_nat .u64 r.length (by show _ < 18446744073709551616; omega)
    have wn : ((r.length : Nat) : Int).toNat = r.length := rfl
    have k4 : ileB (Int.ofNat 0) t = true := by rw [ileB_eq]; exact decide_eq_true c4
    have k5 : iltB t (Int.ofNat 18446744073709551616) = true := by rw [iltB_eq]; exact decide_eq_true (by show t < 18446744073709551616; omega)
    have k8 : iltB ((r.length : Nat) : Int) (Int.ofNat 18446744073709551616) = true := by rw [iltB_eq]; exact decide_eq_true (by show (r.length : Int) < 18446744073709551616; omega)
    have e0 : [AV.int IntKind.u8 (Int.ofNat 76), AV.int IntKind.u8 (Int.ofNat 83), AV.int IntKind.u8 m, AV.int IntKind.u8 p] = ofBytes [UInt8.ofNat 76, UInt8.ofNat 83, UInt8.ofNat m.toNat, UInt8.ofNat p.toNat] := by
      rw [u8_of m c1 (by omega), u8_of p c2 c3]; rfl
    have eh : [UInt8.ofNat 76, UInt8.ofNat 83, UInt8.ofNat m.toNat, UInt8.ofNat p.toNat] ++ putB 4 t.toNat ++ putB 8 g.toNat ++ putB 2 r.length = headB m.toNat p.toNat t.toNat g.toNat r.length := rfl
    have hl := headB_length m.toNat p.toNat t.toNat g.toNat r.length
    have h32 := padB_length 32 (headB m.toNat p.toNat t.toNat g.toNat r.length) (by omega)
    have es : padB 512 (padB 32 (headB m.toNat p.toNat t.toNat g.toNat r.length) ++ r) = shareB m.toNat p.toNat t.toNat g.toNat r := rfl
    have sl := shareB_length m.toNat p.toNat t.toNat g.toNat r c10
    have ec : rowCut (ofBytes (shareB m.toNat p.toNat t.toNat g.toNat r)) 0 512 = ofBytes (shareB m.toNat p.toNat t.toNat g.toNat r) := by
      rw [rowCut_ofBytes, List.drop_zero, List.take_of_length_le (by omega)]
    refine ⟨rfl, ?_⟩
    rw [kept_eq]
    by_cases h0 : r.length = 0
    · have : r = [] := List.eq_nil_of_length_eq_zero h0
      subst this
      have es0 : padB 512 (padB 32 (headB m.toNat p.toNat t.toNat g.toNat ([] : List UInt8).length)) = shareB m.toNat p.toNat t.toNat g.toNat [] := by unfold shareB; rw [List.append_nil]
      have key := rs_e m p t g []
      replace key := key (by
        (try simp only [kept_eq, AV.intOf, AV.strOf, wt, wl, wn, e0, cut_putB, ← ofBytes_append, eh, bytesL_ofBytes, es, ec, k1, k2, k3, k4, k5, k6, k7, k8, es0])
        first
          | done
          | rfl
          | assumption
          | exact ofBytes_plainL _
          | exact u8L_ofBytes _
          | exact ofBytes_cells _
          | (simp [nbeq, nble, ofBytes_length, putB_length, hl, h32, sl, c10, bytesOf_ofBytes, u8L_ofBytes, ofBytes_plainL, ofBytes_cells]; done)
          | (simp [nbeq, nble, ofBytes_length, putB_length, hl, h32, sl, appRoom]; omega))
      replace key := key (by
        (try simp only [kept_eq, AV.intOf, AV.strOf, wt, wl, wn, e0, cut_putB, ← ofBytes_append, eh, bytesL_ofBytes, es, ec, k1, k2, k3, k4, k5, k6, k7, k8, es0])
        first
          | done
          | rfl
          | assumption
          | exact ofBytes_plainL _
          | exact u8L_ofBytes _
          | exact ofBytes_cells _
          | (simp [nbeq, nble, ofBytes_length, putB_length, hl, h32, sl, c10, bytesOf_ofBytes, u8L_ofBytes, ofBytes_plainL, ofBytes_cells]; done)
          | (simp [nbeq, nble, ofBytes_length, putB_length, hl, h32, sl, appRoom]; omega))
      replace key := key (by
        (try simp only [kept_eq, AV.intOf, AV.strOf, wt, wl, wn, e0, cut_putB, ← ofBytes_append, eh, bytesL_ofBytes, es, ec, k1, k2, k3, k4, k5, k6, k7, k8, es0])
        first
          | done
          | rfl
          | assumption
          | exact ofBytes_plainL _
          | exact u8L_ofBytes _
          | exact ofBytes_cells _
          | (simp [nbeq, nble, ofBytes_length, putB_length, hl, h32, sl, c10, bytesOf_ofBytes, u8L_ofBytes, ofBytes_plainL, ofBytes_cells]; done)
          | (simp [nbeq, nble, ofBytes_length, putB_length, hl, h32, sl, appRoom]; omega))
      replace key := key (by
        (try simp only [kept_eq, AV.intOf, AV.strOf, wt, wl, wn, e0, cut_putB, ← ofBytes_append, eh, bytesL_ofBytes, es, ec, k1, k2, k3, k4, k5, k6, k7, k8, es0])
        first
          | done
          | rfl
          | assumption
          | exact ofBytes_plainL _
          | exact u8L_ofBytes _
          | exact ofBytes_cells _
          | (simp [nbeq, nble, ofBytes_length, putB_length, hl, h32, sl, c10, bytesOf_ofBytes, u8L_ofBytes, ofBytes_plainL, ofBytes_cells]; done)
          | (simp [nbeq, nble, ofBytes_length, putB_length, hl, h32, sl, appRoom]; omega))
      replace key := key (by
        (try simp only [kept_eq, AV.intOf, AV.strOf, wt, wl, wn, e0, cut_putB, ← ofBytes_append, eh, bytesL_ofBytes, es, ec, k1, k2, k3, k4, k5, k6, k7, k8, es0])
        first
          | done
          | rfl
          | assumption
          | exact ofBytes_plainL _
          | exact u8L_ofBytes _
          | exact ofBytes_cells _
          | (simp [nbeq, nble, ofBytes_length, putB_length, hl, h32, sl, c10, bytesOf_ofBytes, u8L_ofBytes, ofBytes_plainL, ofBytes_cells]; done)
          | (simp [nbeq, nble, ofBytes_length, putB_length, hl, h32, sl, appRoom]; omega))
      replace key := key (by
        (try simp only [kept_eq, AV.intOf, AV.strOf, wt, wl, wn, e0, cut_putB, ← ofBytes_append, eh, bytesL_ofBytes, es, ec, k1, k2, k3, k4, k5, k6, k7, k8, es0])
        first
          | done
          | rfl
          | assumption
          | exact ofBytes_plainL _
          | exact u8L_ofBytes _
          | exact ofBytes_cells _
          | (simp [nbeq, nble, ofBytes_length, putB_length, hl, h32, sl, c10, bytesOf_ofBytes, u8L_ofBytes, ofBytes_plainL, ofBytes_cells]; done)
          | (simp [nbeq, nble, ofBytes_length, putB_length, hl, h32, sl, appRoom]; omega))
      replace key := key (by
        (try simp only [kept_eq, AV.intOf, AV.strOf, wt, wl, wn, e0, cut_putB, ← ofBytes_append, eh, bytesL_ofBytes, es, ec, k1, k2, k3, k4, k5, k6, k7, k8, es0])
        first
          | done
          | rfl
          | assumption
          | exact ofBytes_plainL _
          | exact u8L_ofBytes _
          | exact ofBytes_cells _
          | (simp [nbeq, nble, ofBytes_length, putB_length, hl, h32, sl, c10, bytesOf_ofBytes, u8L_ofBytes, ofBytes_plainL, ofBytes_cells]; done)
          | (simp [nbeq, nble, ofBytes_length, putB_length, hl, h32, sl, appRoom]; omega))
      replace key := key (by
        (try simp only [kept_eq, AV.intOf, AV.strOf, wt, wl, wn, e0, cut_putB, ← ofBytes_append, eh, bytesL_ofBytes, es, ec, k1, k2, k3, k4, k5, k6, k7, k8, es0])
        first
          | done
          | rfl
          | assumption
          | exact ofBytes_plainL _
          | exact u8L_ofBytes _
          | exact ofBytes_cells _
          | (simp [nbeq, nble, ofBytes_length, putB_length, hl, h32, sl, c10, bytesOf_ofBytes, u8L_ofBytes, ofBytes_plainL, ofBytes_cells]; done)
          | (simp [nbeq, nble, ofBytes_length, putB_length, hl, h32, sl, appRoom]; omega))
      replace key := key (by
        (try simp only [kept_eq, AV.intOf, AV.strOf, wt, wl, wn, e0, cut_putB, ← ofBytes_append, eh, bytesL_ofBytes, es, ec, k1, k2, k3, k4, k5, k6, k7, k8, es0])
        first
          | done
          | rfl
          | assumption
          | exact ofBytes_plainL _
          | exact u8L_ofBytes _
          | exact ofBytes_cells _
          | (simp [nbeq, nble, ofBytes_length, putB_length, hl, h32, sl, c10, bytesOf_ofBytes, u8L_ofBytes, ofBytes_plainL, ofBytes_cells]; done)
          | (simp [nbeq, nble, ofBytes_length, putB_length, hl, h32, sl, appRoom]; omega))
      replace key := key (by
        (try simp only [kept_eq, AV.intOf, AV.strOf, wt, wl, wn, e0, cut_putB, ← ofBytes_append, eh, bytesL_ofBytes, es, ec, k1, k2, k3, k4, k5, k6, k7, k8, es0])
        first
          | done
          | rfl
          | assumption
          | exact ofBytes_plainL _
          | exact u8L_ofBytes _
          | exact ofBytes_cells _
          | (simp [nbeq, nble, ofBytes_length, putB_length, hl, h32, sl, c10, bytesOf_ofBytes, u8L_ofBytes, ofBytes_plainL, ofBytes_cells]; done)
          | (simp [nbeq, nble, ofBytes_length, putB_length, hl, h32, sl, appRoom]; omega))
      replace key := key (by
        (try simp only [kept_eq, AV.intOf, AV.strOf, wt, wl, wn, e0, cut_putB, ← ofBytes_append, eh, bytesL_ofBytes, es, ec, k1, k2, k3, k4, k5, k6, k7, k8, es0])
        first
          | done
          | rfl
          | assumption
          | exact ofBytes_plainL _
          | exact u8L_ofBytes _
          | exact ofBytes_cells _
          | (simp [nbeq, nble, ofBytes_length, putB_length, hl, h32, sl, c10, bytesOf_ofBytes, u8L_ofBytes, ofBytes_plainL, ofBytes_cells]; done)
          | (simp [nbeq, nble, ofBytes_length, putB_length, hl, h32, sl, appRoom]; omega))
      replace key := key (by
        (try simp only [kept_eq, AV.intOf, AV.strOf, wt, wl, wn, e0, cut_putB, ← ofBytes_append, eh, bytesL_ofBytes, es, ec, k1, k2, k3, k4, k5, k6, k7, k8, es0])
        first
          | done
          | rfl
          | assumption
          | exact ofBytes_plainL _
          | exact u8L_ofBytes _
          | exact ofBytes_cells _
          | (simp [nbeq, nble, ofBytes_length, putB_length, hl, h32, sl, c10, bytesOf_ofBytes, u8L_ofBytes, ofBytes_plainL, ofBytes_cells]; done)
          | (simp [nbeq, nble, ofBytes_length, putB_length, hl, h32, sl, appRoom]; omega))
      replace key := key (by
        (try simp only [kept_eq, AV.intOf, AV.strOf, wt, wl, wn, e0, cut_putB, ← ofBytes_append, eh, bytesL_ofBytes, es, ec, k1, k2, k3, k4, k5, k6, k7, k8, es0])
        first
          | done
          | rfl
          | assumption
          | exact ofBytes_plainL _
          | exact u8L_ofBytes _
          | exact ofBytes_cells _
          | (simp [nbeq, nble, ofBytes_length, putB_length, hl, h32, sl, c10, bytesOf_ofBytes, u8L_ofBytes, ofBytes_plainL, ofBytes_cells]; done)
          | (simp [nbeq, nble, ofBytes_length, putB_length, hl, h32, sl, appRoom]; omega))
      replace key := key (by
        (try simp only [kept_eq, AV.intOf, AV.strOf, wt, wl, wn, e0, cut_putB, ← ofBytes_append, eh, bytesL_ofBytes, es, ec, k1, k2, k3, k4, k5, k6, k7, k8, es0])
        first
          | done
          | rfl
          | assumption
          | exact ofBytes_plainL _
          | exact u8L_ofBytes _
          | exact ofBytes_cells _
          | (simp [nbeq, nble, ofBytes_length, putB_length, hl, h32, sl, c10, bytesOf_ofBytes, u8L_ofBytes, ofBytes_plainL, ofBytes_cells]; done)
          | (simp [nbeq, nble, ofBytes_length, putB_length, hl, h32, sl, appRoom]; omega))
      replace key := key (by
        (try simp only [kept_eq, AV.intOf, AV.strOf, wt, wl, wn, e0, cut_putB, ← ofBytes_append, eh, bytesL_ofBytes, es, ec, k1, k2, k3, k4, k5, k6, k7, k8, es0])
        first
          | done
          | rfl
          | assumption
          | exact ofBytes_plainL _
          | exact u8L_ofBytes _
          | exact ofBytes_cells _
          | (simp [nbeq, nble, ofBytes_length, putB_length, hl, h32, sl, c10, bytesOf_ofBytes, u8L_ofBytes, ofBytes_plainL, ofBytes_cells]; done)
          | (simp [nbeq, nble, ofBytes_length, putB_length, hl, h32, sl, appRoom]; omega))
      replace key := key (by
        (try simp only [kept_eq, AV.intOf, AV.strOf, wt, wl, wn, e0, cut_putB, ← ofBytes_append, eh, bytesL_ofBytes, es, ec, k1, k2, k3, k4, k5, k6, k7, k8, es0])
        first
          | done
          | rfl
          | assumption
          | exact ofBytes_plainL _
          | exact u8L_ofBytes _
          | exact ofBytes_cells _
          | (simp [nbeq, nble, ofBytes_length, putB_length, hl, h32, sl, c10, bytesOf_ofBytes, u8L_ofBytes, ofBytes_plainL, ofBytes_cells]; done)
          | (simp [nbeq, nble, ofBytes_length, putB_length, hl, h32, sl, appRoom]; omega))
      replace key := key (by
        (try simp only [kept_eq, AV.intOf, AV.strOf, wt, wl, wn, e0, cut_putB, ← ofBytes_append, eh, bytesL_ofBytes, es, ec, k1, k2, k3, k4, k5, k6, k7, k8, es0])
        first
          | done
          | rfl
          | assumption
          | exact ofBytes_plainL _
          | exact u8L_ofBytes _
          | exact ofBytes_cells _
          | (simp [nbeq, nble, ofBytes_length, putB_length, hl, h32, sl, c10, bytesOf_ofBytes, u8L_ofBytes, ofBytes_plainL, ofBytes_cells]; done)
          | (simp [nbeq, nble, ofBytes_length, putB_length, hl, h32, sl, appRoom]; omega))
      replace key := key (by
        (try simp only [kept_eq, AV.intOf, AV.strOf, wt, wl, wn, e0, cut_putB, ← ofBytes_append, eh, bytesL_ofBytes, es, ec, k1, k2, k3, k4, k5, k6, k7, k8, es0])
        first
          | done
          | rfl
          | assumption
          | exact ofBytes_plainL _
          | exact u8L_ofBytes _
          | exact ofBytes_cells _
          | (simp [nbeq, nble, ofBytes_length, putB_length, hl, h32, sl, c10, bytesOf_ofBytes, u8L_ofBytes, ofBytes_plainL, ofBytes_cells]; done)
          | (simp [nbeq, nble, ofBytes_length, putB_length, hl, h32, sl, appRoom]; omega))
      replace key := key (by
        (try simp only [kept_eq, AV.intOf, AV.strOf, wt, wl, wn, e0, cut_putB, ← ofBytes_append, eh, bytesL_ofBytes, es, ec, k1, k2, k3, k4, k5, k6, k7, k8, es0])
        first
          | done
          | rfl
          | assumption
          | exact ofBytes_plainL _
          | exact u8L_ofBytes _
          | exact ofBytes_cells _
          | (simp [nbeq, nble, ofBytes_length, putB_length, hl, h32, sl, c10, bytesOf_ofBytes, u8L_ofBytes, ofBytes_plainL, ofBytes_cells]; done)
          | (simp [nbeq, nble, ofBytes_length, putB_length, hl, h32, sl, appRoom]; omega))
      replace key := key (by
        (try simp only [kept_eq, AV.intOf, AV.strOf, wt, wl, wn, e0, cut_putB, ← ofBytes_append, eh, bytesL_ofBytes, es, ec, k1, k2, k3, k4, k5, k6, k7, k8, es0])
        first
          | done
          | rfl
          | assumption
          | exact ofBytes_plainL _
          | exact u8L_ofBytes _
          | exact ofBytes_cells _
          | (simp [nbeq, nble, ofBytes_length, putB_length, hl, h32, sl, c10, bytesOf_ofBytes, u8L_ofBytes, ofBytes_plainL, ofBytes_cells]; done)
          | (simp [nbeq, nble, ofBytes_length, putB_length, hl, h32, sl, appRoom]; omega))
      obtain ⟨h', h, _⟩ := key
      simp only [kept_eq, AV.intOf, AV.strOf, wt, wl, wn, e0, cut_putB, ← ofBytes_append, eh, bytesL_ofBytes, es, ec, k1, k2, k3, k4, k5, k6, k7, k8, es0, bytesOf_ofBytes, Option.getD_some] at h
      exact ⟨60, h', h⟩
    · have k9 : Nat.beq r.length 0 = false := by rw [nbeq]; exact decide_eq_false h0
      have key := rs_ok m p t g r
      replace key := key (by
        (try simp only [kept_eq, AV.intOf, AV.strOf, wt, wl, wn, e0, cut_putB, ← ofBytes_append, eh, bytesL_ofBytes, es, ec, k1, k2, k3, k4, k5, k6, k7, k8, k9])
        first
          | done
          | rfl
          | assumption
          | exact ofBytes_plainL _
          | exact u8L_ofBytes _
          | exact ofBytes_cells _
          | (simp [nbeq, nble, ofBytes_length, putB_length, hl, h32, sl, c10, bytesOf_ofBytes, u8L_ofBytes, ofBytes_plainL, ofBytes_cells]; done)
          | (simp [nbeq, nble, ofBytes_length, putB_length, hl, h32, sl, appRoom]; omega))
      replace key := key (by
        (try simp only [kept_eq, AV.intOf, AV.strOf, wt, wl, wn, e0, cut_putB, ← ofBytes_append, eh, bytesL_ofBytes, es, ec, k1, k2, k3, k4, k5, k6, k7, k8, k9])
        first
          | done
          | rfl
          | assumption
          | exact ofBytes_plainL _
          | exact u8L_ofBytes _
          | exact ofBytes_cells _
          | (simp [nbeq, nble, ofBytes_length, putB_length, hl, h32, sl, c10, bytesOf_ofBytes, u8L_ofBytes, ofBytes_plainL, ofBytes_cells]; done)
          | (simp [nbeq, nble, ofBytes_length, putB_length, hl, h32, sl, appRoom]; omega))
      replace key := key (by
        (try simp only [kept_eq, AV.intOf, AV.strOf, wt, wl, wn, e0, cut_putB, ← ofBytes_append, eh, bytesL_ofBytes, es, ec, k1, k2, k3, k4, k5, k6, k7, k8, k9])
        first
          | done
          | rfl
          | assumption
          | exact ofBytes_plainL _
          | exact u8L_ofBytes _
          | exact ofBytes_cells _
          | (simp [nbeq, nble, ofBytes_length, putB_length, hl, h32, sl, c10, bytesOf_ofBytes, u8L_ofBytes, ofBytes_plainL, ofBytes_cells]; done)
          | (simp [nbeq, nble, ofBytes_length, putB_length, hl, h32, sl, appRoom]; omega))
      replace key := key (by
        (try simp only [kept_eq, AV.intOf, AV.strOf, wt, wl, wn, e0, cut_putB, ← ofBytes_append, eh, bytesL_ofBytes, es, ec, k1, k2, k3, k4, k5, k6, k7, k8, k9])
        first
          | done
          | rfl
          | assumption
          | exact ofBytes_plainL _
          | exact u8L_ofBytes _
          | exact ofBytes_cells _
          | (simp [nbeq, nble, ofBytes_length, putB_length, hl, h32, sl, c10, bytesOf_ofBytes, u8L_ofBytes, ofBytes_plainL, ofBytes_cells]; done)
          | (simp [nbeq, nble, ofBytes_length, putB_length, hl, h32, sl, appRoom]; omega))
      replace key := key (by
        (try simp only [kept_eq, AV.intOf, AV.strOf, wt, wl, wn, e0, cut_putB, ← ofBytes_append, eh, bytesL_ofBytes, es, ec, k1, k2, k3, k4, k5, k6, k7, k8, k9])
        first
          | done
          | rfl
          | assumption
          | exact ofBytes_plainL _
          | exact u8L_ofBytes _
          | exact ofBytes_cells _
          | (simp [nbeq, nble, ofBytes_length, putB_length, hl, h32, sl, c10, bytesOf_ofBytes, u8L_ofBytes, ofBytes_plainL, ofBytes_cells]; done)
          | (simp [nbeq, nble, ofBytes_length, putB_length, hl, h32, sl, appRoom]; omega))
      replace key := key (by
        (try simp only [kept_eq, AV.intOf, AV.strOf, wt, wl, wn, e0, cut_putB, ← ofBytes_append, eh, bytesL_ofBytes, es, ec, k1, k2, k3, k4, k5, k6, k7, k8, k9])
        first
          | done
          | rfl
          | assumption
          | exact ofBytes_plainL _
          | exact u8L_ofBytes _
          | exact ofBytes_cells _
          | (simp [nbeq, nble, ofBytes_length, putB_length, hl, h32, sl, c10, bytesOf_ofBytes, u8L_ofBytes, ofBytes_plainL, ofBytes_cells]; done)
          | (simp [nbeq, nble, ofBytes_length, putB_length, hl, h32, sl, appRoom]; omega))
      replace key := key (by
        (try simp only [kept_eq, AV.intOf, AV.strOf, wt, wl, wn, e0, cut_putB, ← ofBytes_append, eh, bytesL_ofBytes, es, ec, k1, k2, k3, k4, k5, k6, k7, k8, k9])
        first
          | done
          | rfl
          | assumption
          | exact ofBytes_plainL _
          | exact u8L_ofBytes _
          | exact ofBytes_cells _
          | (simp [nbeq, nble, ofBytes_length, putB_length, hl, h32, sl, c10, bytesOf_ofBytes, u8L_ofBytes, ofBytes_plainL, ofBytes_cells]; done)
          | (simp [nbeq, nble, ofBytes_length, putB_length, hl, h32, sl, appRoom]; omega))
      replace key := key (by
        (try simp only [kept_eq, AV.intOf, AV.strOf, wt, wl, wn, e0, cut_putB, ← ofBytes_append, eh, bytesL_ofBytes, es, ec, k1, k2, k3, k4, k5, k6, k7, k8, k9])
        first
          | done
          | rfl
          | assumption
          | exact ofBytes_plainL _
          | exact u8L_ofBytes _
          | exact ofBytes_cells _
          | (simp [nbeq, nble, ofBytes_length, putB_length, hl, h32, sl, c10, bytesOf_ofBytes, u8L_ofBytes, ofBytes_plainL, ofBytes_cells]; done)
          | (simp [nbeq, nble, ofBytes_length, putB_length, hl, h32, sl, appRoom]; omega))
      replace key := key (by
        (try simp only [kept_eq, AV.intOf, AV.strOf, wt, wl, wn, e0, cut_putB, ← ofBytes_append, eh, bytesL_ofBytes, es, ec, k1, k2, k3, k4, k5, k6, k7, k8, k9])
        first
          | done
          | rfl
          | assumption
          | exact ofBytes_plainL _
          | exact u8L_ofBytes _
          | exact ofBytes_cells _
          | (simp [nbeq, nble, ofBytes_length, putB_length, hl, h32, sl, c10, bytesOf_ofBytes, u8L_ofBytes, ofBytes_plainL, ofBytes_cells]; done)
          | (simp [nbeq, nble, ofBytes_length, putB_length, hl, h32, sl, appRoom]; omega))
      replace key := key (by
        (try simp only [kept_eq, AV.intOf, AV.strOf, wt, wl, wn, e0, cut_putB, ← ofBytes_append, eh, bytesL_ofBytes, es, ec, k1, k2, k3, k4, k5, k6, k7, k8, k9])
        first
          | done
          | rfl
          | assumption
          | exact ofBytes_plainL _
          | exact u8L_ofBytes _
          | exact ofBytes_cells _
          | (simp [nbeq, nble, ofBytes_length, putB_length, hl, h32, sl, c10, bytesOf_ofBytes, u8L_ofBytes, ofBytes_plainL, ofBytes_cells]; done)
          | (simp [nbeq, nble, ofBytes_length, putB_length, hl, h32, sl, appRoom]; omega))
      replace key := key (by
        (try simp only [kept_eq, AV.intOf, AV.strOf, wt, wl, wn, e0, cut_putB, ← ofBytes_append, eh, bytesL_ofBytes, es, ec, k1, k2, k3, k4, k5, k6, k7, k8, k9])
        first
          | done
          | rfl
          | assumption
          | exact ofBytes_plainL _
          | exact u8L_ofBytes _
          | exact ofBytes_cells _
          | (simp [nbeq, nble, ofBytes_length, putB_length, hl, h32, sl, c10, bytesOf_ofBytes, u8L_ofBytes, ofBytes_plainL, ofBytes_cells]; done)
          | (simp [nbeq, nble, ofBytes_length, putB_length, hl, h32, sl, appRoom]; omega))
      replace key := key (by
        (try simp only [kept_eq, AV.intOf, AV.strOf, wt, wl, wn, e0, cut_putB, ← ofBytes_append, eh, bytesL_ofBytes, es, ec, k1, k2, k3, k4, k5, k6, k7, k8, k9])
        first
          | done
          | rfl
          | assumption
          | exact ofBytes_plainL _
          | exact u8L_ofBytes _
          | exact ofBytes_cells _
          | (simp [nbeq, nble, ofBytes_length, putB_length, hl, h32, sl, c10, bytesOf_ofBytes, u8L_ofBytes, ofBytes_plainL, ofBytes_cells]; done)
          | (simp [nbeq, nble, ofBytes_length, putB_length, hl, h32, sl, appRoom]; omega))
      replace key := key (by
        (try simp only [kept_eq, AV.intOf, AV.strOf, wt, wl, wn, e0, cut_putB, ← ofBytes_append, eh, bytesL_ofBytes, es, ec, k1, k2, k3, k4, k5, k6, k7, k8, k9])
        first
          | done
          | rfl
          | assumption
          | exact ofBytes_plainL _
          | exact u8L_ofBytes _
          | exact ofBytes_cells _
          | (simp [nbeq, nble, ofBytes_length, putB_length, hl, h32, sl, c10, bytesOf_ofBytes, u8L_ofBytes, ofBytes_plainL, ofBytes_cells]; done)
          | (simp [nbeq, nble, ofBytes_length, putB_length, hl, h32, sl, appRoom]; omega))
      replace key := key (by
        (try simp only [kept_eq, AV.intOf, AV.strOf, wt, wl, wn, e0, cut_putB, ← ofBytes_append, eh, bytesL_ofBytes, es, ec, k1, k2, k3, k4, k5, k6, k7, k8, k9])
        first
          | done
          | rfl
          | assumption
          | exact ofBytes_plainL _
          | exact u8L_ofBytes _
          | exact ofBytes_cells _
          | (simp [nbeq, nble, ofBytes_length, putB_length, hl, h32, sl, c10, bytesOf_ofBytes, u8L_ofBytes, ofBytes_plainL, ofBytes_cells]; done)
          | (simp [nbeq, nble, ofBytes_length, putB_length, hl, h32, sl, appRoom]; omega))
      replace key := key (by
        (try simp only [kept_eq, AV.intOf, AV.strOf, wt, wl, wn, e0, cut_putB, ← ofBytes_append, eh, bytesL_ofBytes, es, ec, k1, k2, k3, k4, k5, k6, k7, k8, k9])
        first
          | done
          | rfl
          | assumption
          | exact ofBytes_plainL _
          | exact u8L_ofBytes _
          | exact ofBytes_cells _
          | (simp [nbeq, nble, ofBytes_length, putB_length, hl, h32, sl, c10, bytesOf_ofBytes, u8L_ofBytes, ofBytes_plainL, ofBytes_cells]; done)
          | (simp [nbeq, nble, ofBytes_length, putB_length, hl, h32, sl, appRoom]; omega))
      replace key := key (by
        (try simp only [kept_eq, AV.intOf, AV.strOf, wt, wl, wn, e0, cut_putB, ← ofBytes_append, eh, bytesL_ofBytes, es, ec, k1, k2, k3, k4, k5, k6, k7, k8, k9])
        first
          | done
          | rfl
          | assumption
          | exact ofBytes_plainL _
          | exact u8L_ofBytes _
          | exact ofBytes_cells _
          | (simp [nbeq, nble, ofBytes_length, putB_length, hl, h32, sl, c10, bytesOf_ofBytes, u8L_ofBytes, ofBytes_plainL, ofBytes_cells]; done)
          | (simp [nbeq, nble, ofBytes_length, putB_length, hl, h32, sl, appRoom]; omega))
      replace key := key (by
        (try simp only [kept_eq, AV.intOf, AV.strOf, wt, wl, wn, e0, cut_putB, ← ofBytes_append, eh, bytesL_ofBytes, es, ec, k1, k2, k3, k4, k5, k6, k7, k8, k9])
        first
          | done
          | rfl
          | assumption
          | exact ofBytes_plainL _
          | exact u8L_ofBytes _
          | exact ofBytes_cells _
          | (simp [nbeq, nble, ofBytes_length, putB_length, hl, h32, sl, c10, bytesOf_ofBytes, u8L_ofBytes, ofBytes_plainL, ofBytes_cells]; done)
          | (simp [nbeq, nble, ofBytes_length, putB_length, hl, h32, sl, appRoom]; omega))
      replace key := key (by
        (try simp only [kept_eq, AV.intOf, AV.strOf, wt, wl, wn, e0, cut_putB, ← ofBytes_append, eh, bytesL_ofBytes, es, ec, k1, k2, k3, k4, k5, k6, k7, k8, k9])
        first
          | done
          | rfl
          | assumption
          | exact ofBytes_plainL _
          | exact u8L_ofBytes _
          | exact ofBytes_cells _
          | (simp [nbeq, nble, ofBytes_length, putB_length, hl, h32, sl, c10, bytesOf_ofBytes, u8L_ofBytes, ofBytes_plainL, ofBytes_cells]; done)
          | (simp [nbeq, nble, ofBytes_length, putB_length, hl, h32, sl, appRoom]; omega))
      replace key := key (by
        (try simp only [kept_eq, AV.intOf, AV.strOf, wt, wl, wn, e0, cut_putB, ← ofBytes_append, eh, bytesL_ofBytes, es, ec, k1, k2, k3, k4, k5, k6, k7, k8, k9])
        first
          | done
          | rfl
          | assumption
          | exact ofBytes_plainL _
          | exact u8L_ofBytes _
          | exact ofBytes_cells _
          | (simp [nbeq, nble, ofBytes_length, putB_length, hl, h32, sl, c10, bytesOf_ofBytes, u8L_ofBytes, ofBytes_plainL, ofBytes_cells]; done)
          | (simp [nbeq, nble, ofBytes_length, putB_length, hl, h32, sl, appRoom]; omega))
      replace key := key (by
        (try simp only [kept_eq, AV.intOf, AV.strOf, wt, wl, wn, e0, cut_putB, ← ofBytes_append, eh, bytesL_ofBytes, es, ec, k1, k2, k3, k4, k5, k6, k7, k8, k9])
        first
          | done
          | rfl
          | assumption
          | exact ofBytes_plainL _
          | exact u8L_ofBytes _
          | exact ofBytes_cells _
          | (simp [nbeq, nble, ofBytes_length, putB_length, hl, h32, sl, c10, bytesOf_ofBytes, u8L_ofBytes, ofBytes_plainL, ofBytes_cells]; done)
          | (simp [nbeq, nble, ofBytes_length, putB_length, hl, h32, sl, appRoom]; omega))
      replace key := key (by
        (try simp only [kept_eq, AV.intOf, AV.strOf, wt, wl, wn, e0, cut_putB, ← ofBytes_append, eh, bytesL_ofBytes, es, ec, k1, k2, k3, k4, k5, k6, k7, k8, k9])
        first
          | done
          | rfl
          | assumption
          | exact ofBytes_plainL _
          | exact u8L_ofBytes _
          | exact ofBytes_cells _
          | (simp [nbeq, nble, ofBytes_length, putB_length, hl, h32, sl, c10, bytesOf_ofBytes, u8L_ofBytes, ofBytes_plainL, ofBytes_cells]; done)
          | (simp [nbeq, nble, ofBytes_length, putB_length, hl, h32, sl, appRoom]; omega))
      replace key := key (by
        (try simp only [kept_eq, AV.intOf, AV.strOf, wt, wl, wn, e0, cut_putB, ← ofBytes_append, eh, bytesL_ofBytes, es, ec, k1, k2, k3, k4, k5, k6, k7, k8, k9])
        first
          | done
          | rfl
          | assumption
          | exact ofBytes_plainL _
          | exact u8L_ofBytes _
          | exact ofBytes_cells _
          | (simp [nbeq, nble, ofBytes_length, putB_length, hl, h32, sl, c10, bytesOf_ofBytes, u8L_ofBytes, ofBytes_plainL, ofBytes_cells]; done)
          | (simp [nbeq, nble, ofBytes_length, putB_length, hl, h32, sl, appRoom]; omega))
      replace key := key (by
        (try simp only [kept_eq, AV.intOf, AV.strOf, wt, wl, wn, e0, cut_putB, ← ofBytes_append, eh, bytesL_ofBytes, es, ec, k1, k2, k3, k4, k5, k6, k7, k8, k9])
        first
          | done
          | rfl
          | assumption
          | exact ofBytes_plainL _
          | exact u8L_ofBytes _
          | exact ofBytes_cells _
          | (simp [nbeq, nble, ofBytes_length, putB_length, hl, h32, sl, c10, bytesOf_ofBytes, u8L_ofBytes, ofBytes_plainL, ofBytes_cells]; done)
          | (simp [nbeq, nble, ofBytes_length, putB_length, hl, h32, sl, appRoom]; omega))
      obtain ⟨h', h, _⟩ := key
      simp only [kept_eq, AV.intOf, AV.strOf, wt, wl, wn, e0, cut_putB, ← ofBytes_append, eh, bytesL_ofBytes, es, ec, k1, k2, k3, k4, k5, k6, k7, k8, k9, bytesOf_ofBytes, Option.getD_some] at h
      exact ⟨60, h', h⟩
  · cases hm
end Go.Proofs.Ytecncappdnhbaaa
end
end

/- Shares: what their sectors are: the program's text. -/
section
set_option autoImplicit false
set_option linter.unusedVariables false
set_option linter.unusedSimpArgs false
set_option maxRecDepth 100000
noncomputable section
namespace Go.Proofs.Ytecncappdnhbaaa
open Go.Ab.M Go.Ab Go
theorem sb_1 (m : Int) (p : Int) (t : Int) (g : Int) (a : Bool) (l : Nat) (cs : List AV) (h0 : (iltB (AV.int IntKind.u8 m).intOf (Int.ofNat 2)) = false) :
    ∃ h', aCall C7a 60 (Tgt.fn 51) [AV.agg [AV.int IntKind.u8 m, AV.int IntKind.u8 p, AV.int IntKind.u32 t, AV.int IntKind.u64 g, AV.fsl a l cs]] H0 = some (AV.tuple [AV.slice none 0 (some 0), AV.int IntKind.i64 (Int.ofNat 2)], h') ∧ [].map h'.get = [] :=
  call_runT (q := (oc 4 (.z :: (.z :: (.z :: (.z :: (oc 6 []))))))) (c := (Cnd.tst _ false :: Cnd.tst _ false :: Cnd.tst _ false :: Cnd.tst _ false :: [])) (by kernel_rfl) ⟨h0, h0, h0, h0, trivial⟩
theorem sb_2 (m : Int) (p : Int) (t : Int) (g : Int) (a : Bool) (l : Nat) (cs : List AV) (h0 : (iltB (AV.int IntKind.u8 m).intOf (Int.ofNat 2)) = true) (h1 : (iltB (Int.ofNat 0) (AV.int IntKind.u8 p).intOf) = false) :
    ∃ h', aCall C7a 60 (Tgt.fn 51) [AV.agg [AV.int IntKind.u8 m, AV.int IntKind.u8 p, AV.int IntKind.u32 t, AV.int IntKind.u64 g, AV.fsl a l cs]] H0 = some (AV.tuple [AV.slice none 0 (some 0), AV.int IntKind.i64 (Int.ofNat 2)], h') ∧ [].map h'.get = [] :=
  call_runT (q := (oc 4 (.y :: (.y :: (oc 3 (.y :: (.y :: (.z :: (.z :: (.z :: (.z :: (.z :: (oc 1 []))))))))))))) (c := (Cnd.tst _ true :: Cnd.tst _ true :: Cnd.tst _ true :: Cnd.tst _ true :: Cnd.tst _ false :: Cnd.tst _ false :: Cnd.tst _ false :: Cnd.tst _ false :: Cnd.tst _ false :: [])) (by kernel_rfl) ⟨h0, h0, h0, h0, h1, h1, h1, h1, h1, trivial⟩
theorem sb_3 (m : Int) (p : Int) (t : Int) (g : Int) (a : Bool) (l : Nat) (cs : List AV) (h0 : (iltB (AV.int IntKind.u8 m).intOf (Int.ofNat 2)) = true) (h1 : (iltB (Int.ofNat 0) (AV.int IntKind.u8 p).intOf) = true) (h2 : (!ileB (Int.ofNat l) (Int.ofNat 480)) = true) :
    ∃ h', aCall C7a 60 (Tgt.fn 51) [AV.agg [AV.int IntKind.u8 m, AV.int IntKind.u8 p, AV.int IntKind.u32 t, AV.int IntKind.u64 g, AV.fsl a l cs]] H0 = some (AV.tuple [AV.slice none 0 (some 0), AV.int IntKind.i64 (Int.ofNat 2)], h') ∧ [].map h'.get = [] :=
  call_runT (q := (oc 4 (.y :: (.y :: (oc 3 (.y :: (.y :: (.y :: (.y :: (oc 3 (.y :: (.y :: (.y :: (.y :: [])))))))))))))) (c := (Cnd.tst _ true :: Cnd.tst _ true :: Cnd.tst _ true :: Cnd.tst _ true :: Cnd.tst _ true :: Cnd.tst _ true :: Cnd.tst _ true :: Cnd.tst _ true :: Cnd.tst _ true :: Cnd.tst _ true :: [])) (by kernel_rfl) ⟨h0, h0, h0, h0, h1, h1, h1, h1, h1, h2, trivial⟩
theorem sb_e (m : Int) (p : Int) (t : Int) (g : Int) (a : Bool) (l : Nat) (cs : List AV) (h0 : (iltB (AV.int IntKind.u8 m).intOf (Int.ofNat 2)) = true) (h1 : (iltB (Int.ofNat 0) (AV.int IntKind.u8 p).intOf) = true) (h2 : (!ileB (Int.ofNat l) (Int.ofNat 480)) = false) (h3 : (u8L [AV.int IntKind.u8 (Int.ofNat 76), AV.int IntKind.u8 (Int.ofNat 83), AV.int IntKind.u8 (AV.int IntKind.u8 m).intOf, AV.int IntKind.u8 (AV.int IntKind.u8 p).intOf]) = true) (h4 : (ileB (Int.ofNat 0) (AV.int IntKind.u32 t).intOf) = true) (h5 : (iltB (AV.int IntKind.u32 t).intOf (Int.ofNat 4294967296)) = true) (h6 : (AV.plainL (kept (ofBytes ([UInt8.ofNat 76, UInt8.ofNat 83, UInt8.ofNat (AV.int IntKind.u8 (AV.int IntKind.u8 m).intOf).intOf.toNat, UInt8.ofNat (AV.int IntKind.u8 (AV.int IntKind.u8 p).intOf).intOf.toNat] ++ putB 4 (AV.int IntKind.u32 t).intOf.toNat)))) = true) (h7 : ((rowCut (kept (ofBytes ([UInt8.ofNat 76, UInt8.ofNat 83, UInt8.ofNat (AV.int IntKind.u8 (AV.int IntKind.u8 m).intOf).intOf.toNat, UInt8.ofNat (AV.int IntKind.u8 (AV.int IntKind.u8 p).intOf).intOf.toNat] ++ putB 4 (AV.int IntKind.u32 t).intOf.toNat))) 0 8).length.beq 8) = true) (h8 : (u8L (rowCut (kept (ofBytes ([UInt8.ofNat 76, UInt8.ofNat 83, UInt8.ofNat (AV.int IntKind.u8 (AV.int IntKind.u8 m).intOf).intOf.toNat, UInt8.ofNat (AV.int IntKind.u8 (AV.int IntKind.u8 p).intOf).intOf.toNat] ++ putB 4 (AV.int IntKind.u32 t).intOf.toNat))) 0 8)) = true) (h9 : (ileB (Int.ofNat 0) (AV.int IntKind.u64 g).intOf) = true) (h10 : (iltB (AV.int IntKind.u64 g).intOf (Int.ofNat 18446744073709551616)) = true) (h11 : (AV.plainL (kept (ofBytes (bytesL (rowCut (kept (ofBytes ([UInt8.ofNat 76, UInt8.ofNat 83, UInt8.ofNat (AV.int IntKind.u8 (AV.int IntKind.u8 m).intOf).intOf.toNat, UInt8.ofNat (AV.int IntKind.u8 (AV.int IntKind.u8 p).intOf).intOf.toNat] ++ putB 4 (AV.int IntKind.u32 t).intOf.toNat))) 0 8) ++ putB 8 (AV.int IntKind.u64 g).intOf.toNat)))) = true) (h12 : ((rowCut (kept (ofBytes (bytesL (rowCut (kept (ofBytes ([UInt8.ofNat 76, UInt8.ofNat 83, UInt8.ofNat (AV.int IntKind.u8 (AV.int IntKind.u8 m).intOf).intOf.toNat, UInt8.ofNat (AV.int IntKind.u8 (AV.int IntKind.u8 p).intOf).intOf.toNat] ++ putB 4 (AV.int IntKind.u32 t).intOf.toNat))) 0 8) ++ putB 8 (AV.int IntKind.u64 g).intOf.toNat))) 0 16).length.beq 16) = true) (h13 : (u8L (rowCut (kept (ofBytes (bytesL (rowCut (kept (ofBytes ([UInt8.ofNat 76, UInt8.ofNat 83, UInt8.ofNat (AV.int IntKind.u8 (AV.int IntKind.u8 m).intOf).intOf.toNat, UInt8.ofNat (AV.int IntKind.u8 (AV.int IntKind.u8 p).intOf).intOf.toNat] ++ putB 4 (AV.int IntKind.u32 t).intOf.toNat))) 0 8) ++ putB 8 (AV.int IntKind.u64 g).intOf.toNat))) 0 16)) = true) (h14 : (iltB (wrapA IntKind.u16 (Int.ofNat l)) (Int.ofNat 65536)) = true) (h15 : (cs.length.beq (l.mul 1)) = true) (h16 : (l.beq 0) = true) (h17 : ((kept (ofBytes (bytesL (rowCut (kept (ofBytes (bytesL (rowCut (kept (ofBytes ([UInt8.ofNat 76, UInt8.ofNat 83, UInt8.ofNat (AV.int IntKind.u8 (AV.int IntKind.u8 m).intOf).intOf.toNat, UInt8.ofNat (AV.int IntKind.u8 (AV.int IntKind.u8 p).intOf).intOf.toNat] ++ putB 4 (AV.int IntKind.u32 t).intOf.toNat))) 0 8) ++ putB 8 (AV.int IntKind.u64 g).intOf.toNat))) 0 16) ++ putB 2 (wrapA IntKind.u16 (Int.ofNat l)).toNat)) ++ ofBytes (List.replicate 14 0)).length.beq 32) = true) :
    ∃ h', aCall C7a 60 (Tgt.fn 51) [AV.agg [AV.int IntKind.u8 m, AV.int IntKind.u8 p, AV.int IntKind.u32 t, AV.int IntKind.u64 g, AV.fsl a l cs]] H0 = some (AV.tuple [AV.slice (some (9, 0)) 512 none, AV.int IntKind.i64 (Int.ofNat 0)], h') ∧ [9].map h'.get = [Blk.cells true 5 (kept (ofBytes (bytesL (rowCut (kept (ofBytes (bytesL (rowCut (kept (ofBytes ([UInt8.ofNat 76, UInt8.ofNat 83, UInt8.ofNat (AV.int IntKind.u8 (AV.int IntKind.u8 m).intOf).intOf.toNat, UInt8.ofNat (AV.int IntKind.u8 (AV.int IntKind.u8 p).intOf).intOf.toNat] ++ putB 4 (AV.int IntKind.u32 t).intOf.toNat))) 0 8) ++ putB 8 (AV.int IntKind.u64 g).intOf.toNat))) 0 16) ++ putB 2 (wrapA IntKind.u16 (Int.ofNat l)).toNat)) ++ ofBytes (List.replicate 14 0) ++ ofBytes (List.replicate 480 0)).length (kept (ofBytes (bytesL (rowCut (kept (ofBytes (bytesL (rowCut (kept (ofBytes ([UInt8.ofNat 76, UInt8.ofNat 83, UInt8.ofNat (AV.int IntKind.u8 (AV.int IntKind.u8 m).intOf).intOf.toNat, UInt8.ofNat (AV.int IntKind.u8 (AV.int IntKind.u8 p).intOf).intOf.toNat] ++ putB 4 (AV.int IntKind.u32 t).intOf.toNat))) 0 8) ++ putB 8 (AV.int IntKind.u64 g).intOf.toNat))) 0 16) ++ putB 2 (wrapA IntKind.u16 (Int.ofNat l)).toNat)) ++ ofBytes (List.replicate 14 0) ++ ofBytes (List.replicate 480 0))] :=
  call_runT (q := (oc 4 (.y :: (.y :: (oc 3 (.y :: (.y :: (.y :: (.y :: (oc 3 (.y :: (.y :: (.y :: (.z :: (oc 34 (.y :: (oc 1 (.y :: (.y :: (oc 1 (.y :: (.y :: (.y :: (oc 1 (.y :: (.y :: (oc 1 (.y :: (.y :: (.y :: (oc 2 (.y :: (oc 5 (.y :: (oc 5 (.y :: (oc 3 (.y :: (oc 6 (.y :: (oc 3 (.y :: (oc 3 (.y :: (.y :: (.y :: (.y :: (.y :: (.y :: (.y :: (oc 11 (.y :: (.y :: (oc 5 (.y :: (oc 1 [])))))))))))))))))))))))))))))))))))))))))))))))))))))))) (c := (Cnd.tst _ true :: Cnd.tst _ true :: Cnd.tst _ true :: Cnd.tst _ true :: Cnd.tst _ true :: Cnd.tst _ true :: Cnd.tst _ true :: Cnd.tst _ true :: Cnd.tst _ true :: Cnd.tst _ false :: Cnd.tst _ true :: Cnd.tst _ true :: Cnd.tst _ true :: Cnd.tst _ true :: Cnd.tst _ true :: Cnd.tst _ true :: Cnd.tst _ true :: Cnd.tst _ true :: Cnd.tst _ true :: Cnd.tst _ true :: Cnd.tst _ true :: Cnd.tst _ true :: Cnd.same (AV.int IntKind.u32 (AV.int IntKind.u32 t).intOf) (AV.int IntKind.u32 (AV.int IntKind.u32 t).intOf) :: Cnd.same (AV.int IntKind.u64 (AV.int IntKind.u64 g).intOf) (AV.int IntKind.u64 (AV.int IntKind.u64 g).intOf) :: Cnd.same (AV.int IntKind.u64 (AV.int IntKind.u64 g).intOf) (AV.int IntKind.u64 (AV.int IntKind.u64 g).intOf) :: Cnd.same (AV.fsl a l cs) (AV.fsl a l cs) :: Cnd.same (AV.fsl a l cs) (AV.fsl a l cs) :: Cnd.same (AV.fsl a l cs) (AV.fsl a l cs) :: Cnd.same (AV.int IntKind.i64 (Int.ofNat l)) (AV.int IntKind.i64 (Int.ofNat l)) :: Cnd.same (AV.int IntKind.i64 (Int.ofNat l)) (AV.int IntKind.i64 (Int.ofNat l)) :: Cnd.same (AV.int IntKind.i64 (Int.ofNat l)) (AV.int IntKind.i64 (Int.ofNat l)) :: Cnd.same (AV.int IntKind.u16 (wrapA IntKind.u16 (Int.ofNat l))) (AV.int IntKind.u16 (wrapA IntKind.u16 (Int.ofNat l))) :: Cnd.same (AV.int IntKind.u16 (wrapA IntKind.u16 (Int.ofNat l))) (AV.int IntKind.u16 (wrapA IntKind.u16 (Int.ofNat l))) :: Cnd.same (AV.int IntKind.u16 (wrapA IntKind.u16 (Int.ofNat l))) (AV.int IntKind.u16 (wrapA IntKind.u16 (Int.ofNat l))) :: Cnd.tst _ true :: Cnd.tst _ true :: Cnd.tst _ true :: [])) (by kernel_rfl) ⟨h0, h0, h0, h0, h1, h1, h1, h1, h1, h2, h3, h4, h5, h6, h7, h8, h9, h10, h11, h12, h13, h14, rfl, rfl, rfl, rfl, rfl, rfl, rfl, rfl, rfl, rfl, rfl, rfl, h15, h16, h17, trivial⟩
theorem sb_ok (m : Int) (p : Int) (t : Int) (g : Int) (a : Bool) (l : Nat) (cs : List AV) (h0 : (iltB (AV.int IntKind.u8 m).intOf (Int.ofNat 2)) = true) (h1 : (iltB (Int.ofNat 0) (AV.int IntKind.u8 p).intOf) = true) (h2 : (!ileB (Int.ofNat l) (Int.ofNat 480)) = false) (h3 : (u8L [AV.int IntKind.u8 (Int.ofNat 76), AV.int IntKind.u8 (Int.ofNat 83), AV.int IntKind.u8 (AV.int IntKind.u8 m).intOf, AV.int IntKind.u8 (AV.int IntKind.u8 p).intOf]) = true) (h4 : (ileB (Int.ofNat 0) (AV.int IntKind.u32 t).intOf) = true) (h5 : (iltB (AV.int IntKind.u32 t).intOf (Int.ofNat 4294967296)) = true) (h6 : (AV.plainL (kept (ofBytes ([UInt8.ofNat 76, UInt8.ofNat 83, UInt8.ofNat (AV.int IntKind.u8 (AV.int IntKind.u8 m).intOf).intOf.toNat, UInt8.ofNat (AV.int IntKind.u8 (AV.int IntKind.u8 p).intOf).intOf.toNat] ++ putB 4 (AV.int IntKind.u32 t).intOf.toNat)))) = true) (h7 : ((rowCut (kept (ofBytes ([UInt8.ofNat 76, UInt8.ofNat 83, UInt8.ofNat (AV.int IntKind.u8 (AV.int IntKind.u8 m).intOf).intOf.toNat, UInt8.ofNat (AV.int IntKind.u8 (AV.int IntKind.u8 p).intOf).intOf.toNat] ++ putB 4 (AV.int IntKind.u32 t).intOf.toNat))) 0 8).length.beq 8) = true) (h8 : (u8L (rowCut (kept (ofBytes ([UInt8.ofNat 76, UInt8.ofNat 83, UInt8.ofNat (AV.int IntKind.u8 (AV.int IntKind.u8 m).intOf).intOf.toNat, UInt8.ofNat (AV.int IntKind.u8 (AV.int IntKind.u8 p).intOf).intOf.toNat] ++ putB 4 (AV.int IntKind.u32 t).intOf.toNat))) 0 8)) = true) (h9 : (ileB (Int.ofNat 0) (AV.int IntKind.u64 g).intOf) = true) (h10 : (iltB (AV.int IntKind.u64 g).intOf (Int.ofNat 18446744073709551616)) = true) (h11 : (AV.plainL (kept (ofBytes (bytesL (rowCut (kept (ofBytes ([UInt8.ofNat 76, UInt8.ofNat 83, UInt8.ofNat (AV.int IntKind.u8 (AV.int IntKind.u8 m).intOf).intOf.toNat, UInt8.ofNat (AV.int IntKind.u8 (AV.int IntKind.u8 p).intOf).intOf.toNat] ++ putB 4 (AV.int IntKind.u32 t).intOf.toNat))) 0 8) ++ putB 8 (AV.int IntKind.u64 g).intOf.toNat)))) = true) (h12 : ((rowCut (kept (ofBytes (bytesL (rowCut (kept (ofBytes ([UInt8.ofNat 76, UInt8.ofNat 83, UInt8.ofNat (AV.int IntKind.u8 (AV.int IntKind.u8 m).intOf).intOf.toNat, UInt8.ofNat (AV.int IntKind.u8 (AV.int IntKind.u8 p).intOf).intOf.toNat] ++ putB 4 (AV.int IntKind.u32 t).intOf.toNat))) 0 8) ++ putB 8 (AV.int IntKind.u64 g).intOf.toNat))) 0 16).length.beq 16) = true) (h13 : (u8L (rowCut (kept (ofBytes (bytesL (rowCut (kept (ofBytes ([UInt8.ofNat 76, UInt8.ofNat 83, UInt8.ofNat (AV.int IntKind.u8 (AV.int IntKind.u8 m).intOf).intOf.toNat, UInt8.ofNat (AV.int IntKind.u8 (AV.int IntKind.u8 p).intOf).intOf.toNat] ++ putB 4 (AV.int IntKind.u32 t).intOf.toNat))) 0 8) ++ putB 8 (AV.int IntKind.u64 g).intOf.toNat))) 0 16)) = true) (h14 : (iltB (wrapA IntKind.u16 (Int.ofNat l)) (Int.ofNat 65536)) = true) (h15 : (cs.length.beq (l.mul 1)) = true) (h16 : (l.beq 0) = false) (h17 : (appRoom 1 32 l) = true) (h18 : ((kept (ofBytes (bytesL (rowCut (kept (ofBytes (bytesL (rowCut (kept (ofBytes ([UInt8.ofNat 76, UInt8.ofNat 83, UInt8.ofNat (AV.int IntKind.u8 (AV.int IntKind.u8 m).intOf).intOf.toNat, UInt8.ofNat (AV.int IntKind.u8 (AV.int IntKind.u8 p).intOf).intOf.toNat] ++ putB 4 (AV.int IntKind.u32 t).intOf.toNat))) 0 8) ++ putB 8 (AV.int IntKind.u64 g).intOf.toNat))) 0 16) ++ putB 2 (wrapA IntKind.u16 (Int.ofNat l)).toNat)) ++ ofBytes (List.replicate 14 0)).length.beq 32) = true) (h19 : (cs.all AV.isCell) = true) (h20 : (ileB (Int.ofNat 0) (wrapA IntKind.i64 ((Int.ofNat 512).sub (Int.ofNat (32 + l))))) = true) (h21 : (iltB (wrapA IntKind.i64 ((Int.ofNat 512).sub (Int.ofNat (32 + l)))) (Int.ofNat 9223372036854775808)) = true) (h22 : (ileB (wrapA IntKind.i64 ((Int.ofNat 512).sub (Int.ofNat (32 + l))) * Int.ofNat 1) (Int.ofNat 281474976710656)) = true) (h23 : ((wrapA IntKind.i64 ((Int.ofNat 512).sub (Int.ofNat (32 + l)))).toNat.beq 0) = false) (h24 : (appRoom 1 (32 + l) (wrapA IntKind.i64 ((Int.ofNat 512).sub (Int.ofNat (32 + l)))).toNat) = true) (h25 : ((kept (ofBytes (bytesL (rowCut (kept (ofBytes (bytesL (rowCut (kept (ofBytes ([UInt8.ofNat 76, UInt8.ofNat 83, UInt8.ofNat (AV.int IntKind.u8 (AV.int IntKind.u8 m).intOf).intOf.toNat, UInt8.ofNat (AV.int IntKind.u8 (AV.int IntKind.u8 p).intOf).intOf.toNat] ++ putB 4 (AV.int IntKind.u32 t).intOf.toNat))) 0 8) ++ putB 8 (AV.int IntKind.u64 g).intOf.toNat))) 0 16) ++ putB 2 (wrapA IntKind.u16 (Int.ofNat l)).toNat)) ++ ofBytes (List.replicate 14 0) ++ cs).length.beq ((32 + l) * 1)) = true) (h26 : ((reps (wrapA IntKind.i64 ((Int.ofNat 512).sub (Int.ofNat (32 + l)))).toNat [AV.int IntKind.u8 (Int.ofNat 0)]).all AV.isCell) = true) :
    ∃ h', aCall C7a 60 (Tgt.fn 51) [AV.agg [AV.int IntKind.u8 m, AV.int IntKind.u8 p, AV.int IntKind.u32 t, AV.int IntKind.u64 g, AV.fsl a l cs]] H0 = some (AV.tuple [AV.slice (some (10, 0)) (32 + l + (wrapA IntKind.i64 ((Int.ofNat 512).sub (Int.ofNat (32 + l)))).toNat) none, AV.int IntKind.i64 (Int.ofNat 0)], h') ∧ [10].map h'.get = [Blk.cells true 5 (kept (ofBytes (bytesL (rowCut (kept (ofBytes (bytesL (rowCut (kept (ofBytes ([UInt8.ofNat 76, UInt8.ofNat 83, UInt8.ofNat (AV.int IntKind.u8 (AV.int IntKind.u8 m).intOf).intOf.toNat, UInt8.ofNat (AV.int IntKind.u8 (AV.int IntKind.u8 p).intOf).intOf.toNat] ++ putB 4 (AV.int IntKind.u32 t).intOf.toNat))) 0 8) ++ putB 8 (AV.int IntKind.u64 g).intOf.toNat))) 0 16) ++ putB 2 (wrapA IntKind.u16 (Int.ofNat l)).toNat)) ++ ofBytes (List.replicate 14 0) ++ cs ++ reps (wrapA IntKind.i64 ((Int.ofNat 512).sub (Int.ofNat (32 + l)))).toNat [AV.int IntKind.u8 (Int.ofNat 0)]).length (kept (ofBytes (bytesL (rowCut (kept (ofBytes (bytesL (rowCut (kept (ofBytes ([UInt8.ofNat 76, UInt8.ofNat 83, UInt8.ofNat (AV.int IntKind.u8 (AV.int IntKind.u8 m).intOf).intOf.toNat, UInt8.ofNat (AV.int IntKind.u8 (AV.int IntKind.u8 p).intOf).intOf.toNat] ++ putB 4 (AV.int IntKind.u32 t).intOf.toNat))) 0 8) ++ putB 8 (AV.int IntKind.u64 g).intOf.toNat))) 0 16) ++ putB 2 (wrapA IntKind.u16 (Int.ofNat l)).toNat)) ++ ofBytes (List.replicate 14 0) ++ cs ++ reps (wrapA IntKind.i64 ((Int.ofNat 512).sub (Int.ofNat (32 + l)))).toNat [AV.int IntKind.u8 (Int.ofNat 0)])] :=
  call_runT (q := (oc 4 (.y :: (.y :: (oc 3 (.y :: (.y :: (.y :: (.y :: (oc 3 (.y :: (.y :: (.y :: (.z :: (oc 34 (.y :: (oc 1 (.y :: (.y :: (oc 1 (.y :: (.y :: (.y :: (oc 1 (.y :: (.y :: (oc 1 (.y :: (.y :: (.y :: (oc 2 (.y :: (oc 5 (.y :: (oc 5 (.y :: (oc 3 (.y :: (oc 6 (.y :: (oc 3 (.y :: (oc 3 (.y :: (.y :: (.y :: (.y :: (.y :: (.y :: (.y :: (oc 11 (.y :: (.z :: (.y :: (.y :: (.y :: (.y :: (.y :: (.y :: (.z :: (.y :: (.y :: (.y :: []))))))))))))))))))))))))))))))))))))))))))))))))))))))))))))))) (c := (Cnd.tst _ true :: Cnd.tst _ true :: Cnd.tst _ true :: Cnd.tst _ true :: Cnd.tst _ true :: Cnd.tst _ true :: Cnd.tst _ true :: Cnd.tst _ true :: Cnd.tst _ true :: Cnd.tst _ false :: Cnd.tst _ true :: Cnd.tst _ true :: Cnd.tst _ true :: Cnd.tst _ true :: Cnd.tst _ true :: Cnd.tst _ true :: Cnd.tst _ true :: Cnd.tst _ true :: Cnd.tst _ true :: Cnd.tst _ true :: Cnd.tst _ true :: Cnd.tst _ true :: Cnd.same (AV.int IntKind.u32 (AV.int IntKind.u32 t).intOf) (AV.int IntKind.u32 (AV.int IntKind.u32 t).intOf) :: Cnd.same (AV.int IntKind.u64 (AV.int IntKind.u64 g).intOf) (AV.int IntKind.u64 (AV.int IntKind.u64 g).intOf) :: Cnd.same (AV.int IntKind.u64 (AV.int IntKind.u64 g).intOf) (AV.int IntKind.u64 (AV.int IntKind.u64 g).intOf) :: Cnd.same (AV.fsl a l cs) (AV.fsl a l cs) :: Cnd.same (AV.fsl a l cs) (AV.fsl a l cs) :: Cnd.same (AV.fsl a l cs) (AV.fsl a l cs) :: Cnd.same (AV.int IntKind.i64 (Int.ofNat l)) (AV.int IntKind.i64 (Int.ofNat l)) :: Cnd.same (AV.int IntKind.i64 (Int.ofNat l)) (AV.int IntKind.i64 (Int.ofNat l)) :: Cnd.same (AV.int IntKind.i64 (Int.ofNat l)) (AV.int IntKind.i64 (Int.ofNat l)) :: Cnd.same (AV.int IntKind.u16 (wrapA IntKind.u16 (Int.ofNat l))) (AV.int IntKind.u16 (wrapA IntKind.u16 (Int.ofNat l))) :: Cnd.same (AV.int IntKind.u16 (wrapA IntKind.u16 (Int.ofNat l))) (AV.int IntKind.u16 (wrapA IntKind.u16 (Int.ofNat l))) :: Cnd.same (AV.int IntKind.u16 (wrapA IntKind.u16 (Int.ofNat l))) (AV.int IntKind.u16 (wrapA IntKind.u16 (Int.ofNat l))) :: Cnd.tst _ true :: Cnd.tst _ false :: Cnd.tst _ true :: Cnd.tst _ true :: Cnd.tst _ true :: Cnd.tst _ true :: Cnd.tst _ true :: Cnd.tst _ true :: Cnd.tst _ false :: Cnd.tst _ true :: Cnd.tst _ true :: Cnd.tst _ true :: [])) (by kernel_rfl) ⟨h0, h0, h0, h0, h1, h1, h1, h1, h1, h2, h3, h4, h5, h6, h7, h8, h9, h10, h11, h12, h13, h14, rfl, rfl, rfl, rfl, rfl, rfl, rfl, rfl, rfl, rfl, rfl, rfl, h15, h16, h17, h18, h19, h20, h21, h22, h23, h24, h25, h26, trivial⟩
theorem sb_full (m : Int) (p : Int) (t : Int) (g : Int) (a : Bool) (l : Nat) (cs : List AV) (h0 : (iltB (AV.int IntKind.u8 m).intOf (Int.ofNat 2)) = true) (h1 : (iltB (Int.ofNat 0) (AV.int IntKind.u8 p).intOf) = true) (h2 : (!ileB (Int.ofNat l) (Int.ofNat 480)) = false) (h3 : (u8L [AV.int IntKind.u8 (Int.ofNat 76), AV.int IntKind.u8 (Int.ofNat 83), AV.int IntKind.u8 (AV.int IntKind.u8 m).intOf, AV.int IntKind.u8 (AV.int IntKind.u8 p).intOf]) = true) (h4 : (ileB (Int.ofNat 0) (AV.int IntKind.u32 t).intOf) = true) (h5 : (iltB (AV.int IntKind.u32 t).intOf (Int.ofNat 4294967296)) = true) (h6 : (AV.plainL (kept (ofBytes ([UInt8.ofNat 76, UInt8.ofNat 83, UInt8.ofNat (AV.int IntKind.u8 (AV.int IntKind.u8 m).intOf).intOf.toNat, UInt8.ofNat (AV.int IntKind.u8 (AV.int IntKind.u8 p).intOf).intOf.toNat] ++ putB 4 (AV.int IntKind.u32 t).intOf.toNat)))) = true) (h7 : ((rowCut (kept (ofBytes ([UInt8.ofNat 76, UInt8.ofNat 83, UInt8.ofNat (AV.int IntKind.u8 (AV.int IntKind.u8 m).intOf).intOf.toNat, UInt8.ofNat (AV.int IntKind.u8 (AV.int IntKind.u8 p).intOf).intOf.toNat] ++ putB 4 (AV.int IntKind.u32 t).intOf.toNat))) 0 8).length.beq 8) = true) (h8 : (u8L (rowCut (kept (ofBytes ([UInt8.ofNat 76, UInt8.ofNat 83, UInt8.ofNat (AV.int IntKind.u8 (AV.int IntKind.u8 m).intOf).intOf.toNat, UInt8.ofNat (AV.int IntKind.u8 (AV.int IntKind.u8 p).intOf).intOf.toNat] ++ putB 4 (AV.int IntKind.u32 t).intOf.toNat))) 0 8)) = true) (h9 : (ileB (Int.ofNat 0) (AV.int IntKind.u64 g).intOf) = true) (h10 : (iltB (AV.int IntKind.u64 g).intOf (Int.ofNat 18446744073709551616)) = true) (h11 : (AV.plainL (kept (ofBytes (bytesL (rowCut (kept (ofBytes ([UInt8.ofNat 76, UInt8.ofNat 83, UInt8.ofNat (AV.int IntKind.u8 (AV.int IntKind.u8 m).intOf).intOf.toNat, UInt8.ofNat (AV.int IntKind.u8 (AV.int IntKind.u8 p).intOf).intOf.toNat] ++ putB 4 (AV.int IntKind.u32 t).intOf.toNat))) 0 8) ++ putB 8 (AV.int IntKind.u64 g).intOf.toNat)))) = true) (h12 : ((rowCut (kept (ofBytes (bytesL (rowCut (kept (ofBytes ([UInt8.ofNat 76, UInt8.ofNat 83, UInt8.ofNat (AV.int IntKind.u8 (AV.int IntKind.u8 m).intOf).intOf.toNat, UInt8.ofNat (AV.int IntKind.u8 (AV.int IntKind.u8 p).intOf).intOf.toNat] ++ putB 4 (AV.int IntKind.u32 t).intOf.toNat))) 0 8) ++ putB 8 (AV.int IntKind.u64 g).intOf.toNat))) 0 16).length.beq 16) = true) (h13 : (u8L (rowCut (kept (ofBytes (bytesL (rowCut (kept (ofBytes ([UInt8.ofNat 76, UInt8.ofNat 83, UInt8.ofNat (AV.int IntKind.u8 (AV.int IntKind.u8 m).intOf).intOf.toNat, UInt8.ofNat (AV.int IntKind.u8 (AV.int IntKind.u8 p).intOf).intOf.toNat] ++ putB 4 (AV.int IntKind.u32 t).intOf.toNat))) 0 8) ++ putB 8 (AV.int IntKind.u64 g).intOf.toNat))) 0 16)) = true) (h14 : (iltB (wrapA IntKind.u16 (Int.ofNat l)) (Int.ofNat 65536)) = true) (h15 : (cs.length.beq (l.mul 1)) = true) (h16 : (l.beq 0) = false) (h17 : (appRoom 1 32 l) = true) (h18 : ((kept (ofBytes (bytesL (rowCut (kept (ofBytes (bytesL (rowCut (kept (ofBytes ([UInt8.ofNat 76, UInt8.ofNat 83, UInt8.ofNat (AV.int IntKind.u8 (AV.int IntKind.u8 m).intOf).intOf.toNat, UInt8.ofNat (AV.int IntKind.u8 (AV.int IntKind.u8 p).intOf).intOf.toNat] ++ putB 4 (AV.int IntKind.u32 t).intOf.toNat))) 0 8) ++ putB 8 (AV.int IntKind.u64 g).intOf.toNat))) 0 16) ++ putB 2 (wrapA IntKind.u16 (Int.ofNat l)).toNat)) ++ ofBytes (List.replicate 14 0)).length.beq 32) = true) (h19 : (cs.all AV.isCell) = true) (h20 : (ileB (Int.ofNat 0) (wrapA IntKind.i64 ((Int.ofNat 512).sub (Int.ofNat (32 + l))))) = true) (h21 : (iltB (wrapA IntKind.i64 ((Int.ofNat 512).sub (Int.ofNat (32 + l)))) (Int.ofNat 9223372036854775808)) = true) (h22 : (ileB (wrapA IntKind.i64 ((Int.ofNat 512).sub (Int.ofNat (32 + l))) * Int.ofNat 1) (Int.ofNat 281474976710656)) = true) (h23 : ((wrapA IntKind.i64 ((Int.ofNat 512).sub (Int.ofNat (32 + l)))).toNat.beq 0) = true) :
    ∃ h', aCall C7a 60 (Tgt.fn 51) [AV.agg [AV.int IntKind.u8 m, AV.int IntKind.u8 p, AV.int IntKind.u32 t, AV.int IntKind.u64 g, AV.fsl a l cs]] H0 = some (AV.tuple [AV.slice (some (9, 0)) (32 + l) none, AV.int IntKind.i64 (Int.ofNat 0)], h') ∧ [9].map h'.get = [Blk.cells true 5 (kept (ofBytes (bytesL (rowCut (kept (ofBytes (bytesL (rowCut (kept (ofBytes ([UInt8.ofNat 76, UInt8.ofNat 83, UInt8.ofNat (AV.int IntKind.u8 (AV.int IntKind.u8 m).intOf).intOf.toNat, UInt8.ofNat (AV.int IntKind.u8 (AV.int IntKind.u8 p).intOf).intOf.toNat] ++ putB 4 (AV.int IntKind.u32 t).intOf.toNat))) 0 8) ++ putB 8 (AV.int IntKind.u64 g).intOf.toNat))) 0 16) ++ putB 2 (wrapA IntKind.u16 (Int.ofNat l)).toNat)) ++ ofBytes (List.replicate 14 0) ++ cs).length (kept (ofBytes (bytesL (rowCut (kept (ofBytes (bytesL (rowCut (kept (ofBytes ([UInt8.ofNat 76, UInt8.ofNat 83, UInt8.ofNat (AV.int IntKind.u8 (AV.int IntKind.u8 m).intOf).intOf.toNat, UInt8.ofNat (AV.int IntKind.u8 (AV.int IntKind.u8 p).intOf).intOf.toNat] ++ putB 4 (AV.int IntKind.u32 t).intOf.toNat))) 0 8) ++ putB 8 (AV.int IntKind.u64 g).intOf.toNat))) 0 16) ++ putB 2 (wrapA IntKind.u16 (Int.ofNat l)).toNat)) ++ ofBytes (List.replicate 14 0) ++ cs)] :=
  call_runT (q := (oc 4 (.y :: (.y :: (oc 3 (.y :: (.y :: (.y :: (.y :: (oc 3 (.y :: (.y :: (.y :: (.z :: (oc 34 (.y :: (oc 1 (.y :: (.y :: (oc 1 (.y :: (.y :: (.y :: (oc 1 (.y :: (.y :: (oc 1 (.y :: (.y :: (.y :: (oc 2 (.y :: (oc 5 (.y :: (oc 5 (.y :: (oc 3 (.y :: (oc 6 (.y :: (oc 3 (.y :: (oc 3 (.y :: (.y :: (.y :: (.y :: (.y :: (.y :: (.y :: (oc 11 (.y :: (.z :: (.y :: (.y :: (.y :: (.y :: (.y :: (.y :: (.y :: [])))))))))))))))))))))))))))))))))))))))))))))))))))))))))))) (c := (Cnd.tst _ true :: Cnd.tst _ true :: Cnd.tst _ true :: Cnd.tst _ true :: Cnd.tst _ true :: Cnd.tst _ true :: Cnd.tst _ true :: Cnd.tst _ true :: Cnd.tst _ true :: Cnd.tst _ false :: Cnd.tst _ true :: Cnd.tst _ true :: Cnd.tst _ true :: Cnd.tst _ true :: Cnd.tst _ true :: Cnd.tst _ true :: Cnd.tst _ true :: Cnd.tst _ true :: Cnd.tst _ true :: Cnd.tst _ true :: Cnd.tst _ true :: Cnd.tst _ true :: Cnd.same (AV.int IntKind.u32 (AV.int IntKind.u32 t).intOf) (AV.int IntKind.u32 (AV.int IntKind.u32 t).intOf) :: Cnd.same (AV.int IntKind.u64 (AV.int IntKind.u64 g).intOf) (AV.int IntKind.u64 (AV.int IntKind.u64 g).intOf) :: Cnd.same (AV.int IntKind.u64 (AV.int IntKind.u64 g).intOf) (AV.int IntKind.u64 (AV.int IntKind.u64 g).intOf) :: Cnd.same (AV.fsl a l cs) (AV.fsl a l cs) :: Cnd.same (AV.fsl a l cs) (AV.fsl a l cs) :: Cnd.same (AV.fsl a l cs) (AV.fsl a l cs) :: Cnd.same (AV.int IntKind.i64 (Int.ofNat l)) (AV.int IntKind.i64 (Int.ofNat l)) :: Cnd.same (AV.int IntKind.i64 (Int.ofNat l)) (AV.int IntKind.i64 (Int.ofNat l)) :: Cnd.same (AV.int IntKind.i64 (Int.ofNat l)) (AV.int IntKind.i64 (Int.ofNat l)) :: Cnd.same (AV.int IntKind.u16 (wrapA IntKind.u16 (Int.ofNat l))) (AV.int IntKind.u16 (wrapA IntKind.u16 (Int.ofNat l))) :: Cnd.same (AV.int IntKind.u16 (wrapA IntKind.u16 (Int.ofNat l))) (AV.int IntKind.u16 (wrapA IntKind.u16 (Int.ofNat l))) :: Cnd.same (AV.int IntKind.u16 (wrapA IntKind.u16 (Int.ofNat l))) (AV.int IntKind.u16 (wrapA IntKind.u16 (Int.ofNat l))) :: Cnd.tst _ true :: Cnd.tst _ false :: Cnd.tst _ true :: Cnd.tst _ true :: Cnd.tst _ true :: Cnd.tst _ true :: Cnd.tst _ true :: Cnd.tst _ true :: Cnd.tst _ true :: [])) (by kernel_rfl) ⟨h0, h0, h0, h0, h1, h1, h1, h1, h1, h2, h3, h4, h5, h6, h7, h8, h9, h10, h11, h12, h13, h14, rfl, rfl, rfl, rfl, rfl, rfl, rfl, rfl, rfl, rfl, rfl, rfl, h15, h16, h17, h18, h19, h20, h21, h22, h23, trivial⟩
def bytesSy : RSum := RSum.nb true fun us => match us with
  | [.agg [.int .u8 m, .int .u8 p, .int .u32 t, .int .u64 g, .fsl a l cs]] => some ([ileB (Int.ofNat 0) m, ileB (Int.ofNat 0) p, iltB p (Int.ofNat 256), ileB (Int.ofNat 0) t, iltB t (Int.ofNat 4294967296), ileB (Int.ofNat 0) g, iltB g (Int.ofNat 18446744073709551616), u8L cs, Nat.beq cs.length l, kept (rightS m p l)],
    fun n => .tuple [.slice (some (n, 0)) 512 none, .int .i64 (Int.ofNat 0)], [.cells true 5 512 (kept (ofBytes (shareB m.toNat p.toNat t.toNat g.toNat (bytesL cs))))])
  | _ => none
def bytesSn : RSum := RSum.pl true fun us => match us with
  | [.agg [.int .u8 m, .int .u8 p, .int .u32 t, .int .u64 g, .fsl a l cs]] => some ([kept (!rightS m p l)], .tuple [.slice none 0 (some 0), .int .i64 (Int.ofNat 2)])
  | _ => none
theorem bytesSn_ok : RSum.Sound Try.prog tys 51 bytesSn := by
  refine RSum.soundT (cx_goes _ _) all7a (RSum.pl_ok fun us q v hm hc => ?_)
  split at hm
  · rename_i m p t g a l cs
    injection hm with hm; injection hm with e1 e2; subst e1; subst e2
    simp only [allTrue_cons, kept_eq, Bool.not_eq_true'] at hc
    have hc := hc.1
    by_cases h1 : m < 2
    case neg =>
      obtain ⟨h', h, _⟩ := sb_1 m p t g a l cs (by rw [iltB_eq]; exact decide_eq_false h1)
      exact ⟨rfl, 60, h', h⟩
    have k1 : iltB (AV.int IntKind.u8 m).intOf (Int.ofNat 2) = true := by rw [iltB_eq]; exact decide_eq_true h1
    by_cases h2 : 0 < p
    case neg =>
      obtain ⟨h', h, _⟩ := sb_2 m p t g a l cs k1 (by rw [iltB_eq]; exact decide_eq_false h2)
      exact ⟨rfl, 60, h', h⟩
    have h3 : ¬ l ≤ 480 := fun h => by rw [rightS_iff.2 ⟨⟨h1, h2⟩, h⟩] at hc; cases hc
    obtain ⟨h', h, _⟩ := sb_3 m p t g a l cs k1 (by rw [iltB_eq]; exact decide_eq_true h2) (by rw [ileB_eq]; simp only [Bool.not_eq_true', decide_eq_false_iff_not]; show ¬ (l : Int) ≤ ((480 : Nat) : Int); omega)
    exact ⟨rfl, 60, h', h⟩
  · cases hm
theorem reps_noughts (n : Nat) : reps n [AV.int IntKind.u8 (Int.ofNat 0)] = ofBytes (List.replicate n 0) := by
  induction n with
  | zero => rfl
  | succ n ih => show [AV.int IntKind.u8 (Int.ofNat 0)] ++ reps n [AV.int IntKind.u8 (Int.ofNat 0)] = _; rw [ih]; rfl
set_option maxHeartbeats 4000000 in
theorem bytesSy_ok : RSum.Sound Try.prog tys 51 bytesSy := by
  refine RSum.soundT (cx_goes _ _) all7a (RSum.nb_ok fun us q v bs hm hc => ?_)
  split at hm
  · rename_i m p t g a l cs
    injection hm with hm; injection hm with e1 hm; injection hm with e2 e3; rw [kept_eq] at e3; subst e1; subst e2; subst e3
    simp only [allTrue_cons, kept_eq, ileB_eq, iltB_eq, decide_eq_true_eq, rightS_iff] at hc
    obtain ⟨c1, c2, c3, c4, c5, c6, c7, cu, cl, ⟨⟨c8, c9⟩, c10⟩, _⟩ := hc
    obtain ⟨r, rfl⟩ := u8L_iff.1 cu
    have cl := eq_of_beq' cl
    rw [ofBytes_length] at cl
    subst cl
    rw [bytesL_ofBytes]
    have c1 : 0 ≤ m := c1
    have c2 : 0 ≤ p := c2
    have c3 : p < 256 := c3
    have c4 : 0 ≤ t := c4
    have c5 : t < 4294967296 := c5
    have c6 : 0 ≤ g := c6
    have c7 : g < 18446744073709551616 := c7
    have k1 : iltB m (Int.ofNat 2) = true := by rw [iltB_eq]; exact decide_eq_true c8
    have k2 : iltB (Int.ofNat 0) p = true := by rw [iltB_eq]; exact decide_eq_true c9
    have k3 : (!ileB (Int.ofNat r.length) (Int.ofNat 480)) = false := by rw [ileB_eq]; simp only [Bool.not_eq_false', decide_eq_true_eq]; show (r.length : Int) ≤ ((480 : Nat) : Int); omega
    have k4 : ileB (Int.ofNat 0) t = true := by rw [ileB_eq]; exact decide_eq_true c4
    have k5 : iltB t (Int.ofNat 4294967296) = true := by rw [iltB_eq]; exact decide_eq_true c5
    have k6 : ileB (Int.ofNat 0) g = true := by rw [ileB_eq]; exact decide_eq_true c6
    have k7 : iltB g (Int.ofNat 18446744073709551616) = true := by rw [iltB_eq]; exact decide_eq_true c7
    have wl : wrapA .u16 (Int.ofNat r.length) = (r.length : Int) := wrapA_nat .u16 r.length (by show _ < 65536; omega)
    have wn : ((r.length : Nat) : Int).toNat = r.length := rfl
    have k8 : iltB ((r.length : Nat) : Int) (Int.ofNat 65536) = true := by rw [iltB_eq]; exact decide_eq_true (by show (r.length : Int) < 65536; omega)
    have e0 : [AV.int IntKind.u8 (Int.ofNat 76), AV.int IntKind.u8 (Int.ofNat 83), AV.int IntKind.u8 m, AV.int IntKind.u8 p] = ofBytes [UInt8.ofNat 76, UInt8.ofNat 83, UInt8.ofNat m.toNat, UInt8.ofNat p.toNat] := by
      rw [u8_of m c1 (by omega), u8_of p c2 c3]; rfl
    have q8 : rowCut (ofBytes ([UInt8.ofNat 76, UInt8.ofNat 83, UInt8.ofNat m.toNat, UInt8.ofNat p.toNat] ++ putB 4 t.toNat)) 0 8 = ofBytes ([UInt8.ofNat 76, UInt8.ofNat 83, UInt8.ofNat m.toNat, UInt8.ofNat p.toNat] ++ putB 4 t.toNat) := by
      rw [rowCut_ofBytes, List.drop_zero, List.take_of_length_le (by simp [putB_length])]
    have q16 : rowCut (ofBytes ([UInt8.ofNat 76, UInt8.ofNat 83, UInt8.ofNat m.toNat, UInt8.ofNat p.toNat] ++ putB 4 t.toNat ++ putB 8 g.toNat)) 0 16 = ofBytes ([UInt8.ofNat 76, UInt8.ofNat 83, UInt8.ofNat m.toNat, UInt8.ofNat p.toNat] ++ putB 4 t.toNat ++ putB 8 g.toNat) := by
      rw [rowCut_ofBytes, List.drop_zero, List.take_of_length_le (by simp [putB_length])]
    have eh : [UInt8.ofNat 76, UInt8.ofNat 83, UInt8.ofNat m.toNat, UInt8.ofNat p.toNat] ++ putB 4 t.toNat ++ putB 8 g.toNat ++ putB 2 r.length = headB m.toNat p.toNat t.toNat g.toNat r.length := rfl
    have hl := headB_length m.toNat p.toNat t.toNat g.toNat r.length
    have ep : headB m.toNat p.toNat t.toNat g.toNat r.length ++ List.replicate 14 0 = padB 32 (headB m.toNat p.toNat t.toNat g.toNat r.length) := by unfold padB; rw [hl]
    have h32 := padB_length 32 (headB m.toNat p.toNat t.toNat g.toNat r.length) (by omega)
    have sl := shareB_length m.toNat p.toNat t.toNat g.toNat r c10
    have w1 : wrapA .i64 ((Int.ofNat 512).sub (Int.ofNat (32 + r.length))) = ((480 - r.length : Nat) : Int) := by
      have e : (Int.ofNat 512).sub (Int.ofNat (32 + r.length)) = ((480 - r.length : Nat) : Int) := by
        show (512 : Int) - ((32 + r.length : Nat) : Int) = _; omega
      rw [e]; exact wrapA_nat .i64 _ (by show _ < 9223372036854775808; omega)
    have w2 : ((480 - r.length : Nat) : Int).toNat = 480 - r.length := rfl
    have w3 : 32 + r.length + (480 - r.length) = 512 := by omega
    have es : padB 32 (headB m.toNat p.toNat t.toNat g.toNat r.length) ++ r ++ List.replicate (480 - r.length) 0 = shareB m.toNat p.toNat t.toNat g.toNat r := by
      unfold shareB padB
      congr 2
      simp only [List.length_append, List.length_replicate, hl]
      omega
    have sl2 : (ofBytes (shareB m.toNat p.toNat t.toNat g.toNat r)).length = 512 := by rw [ofBytes_length, sl]
    refine ⟨fun b hb => ?_, ?_⟩
    · have : b = .cells true 5 512 (ofBytes (shareB m.toNat p.toNat t.toNat g.toNat r)) := by simpa using hb
      subst this
      simp only [Blk.plainOwn, ofBytes_plain, Bool.and_self]
    have fin : ∀ (h' : Heap) (j : Nat), aCall C7a 60 (Tgt.fn 51) [AV.agg [AV.int IntKind.u8 m, AV.int IntKind.u8 p, AV.int IntKind.u32 t, AV.int IntKind.u64 g, AV.fsl a r.length (ofBytes r)]] H0 = some (AV.tuple [AV.slice (some (j, 0)) 512 none, AV.int IntKind.i64 (Int.ofNat 0)], h') → [j].map h'.get = [Blk.cells true 5 512 (ofBytes (shareB m.toNat p.toNat t.toNat g.toNat r))] →
        ∃ (f : Nat) (h' : Heap) (sel : List Nat) (v0 : AV), aCall C7a f (.fn 51) [AV.agg [AV.int IntKind.u8 m, AV.int IntKind.u8 p, AV.int IntKind.u32 t, AV.int IntKind.u64 g, AV.fsl a r.length (ofBytes r)]] H0 = some (v0, h') ∧ sel.map h'.get = [Blk.cells true 5 512 (ofBytes (shareB m.toNat p.toNat t.toNat g.toNat r))] ∧
          (∀ (l l' j : Nat), sel[l]? = some j → sel[l']? = some j → l = l') ∧ v0.ok true (fun b => sel.contains b) = true ∧ ∀ (n : Nat) (ρ : Nat → Nat), (∀ (l j : Nat), sel[l]? = some j → ρ j = n + l) → AV.Le (v0.ren ρ) (.tuple [.slice (some (n, 0)) 512 none, .int .i64 (Int.ofNat 0)]) := by
      intro h' j h hb
      refine ⟨60, h', [j], _, h, hb, sel_one j, by simp [AV.ok, AV.okL], fun n ρ hρ => ?_⟩
      have := hρ 0 j rfl
      simp only [AV.ren, AV.renL, Option.map_some, this, Nat.add_zero]
      exact AV.Le.refl _
    by_cases h0 : r.length = 0
    · have : r = [] := List.eq_nil_of_length_eq_zero h0
      subst this
      have k9 : Nat.beq ([] : List UInt8).length 0 = true := rfl
      have key := sb_e m p t g a 0 (ofBytes [])
      iterate 18
        replace key := key (by
          (try simp only [kept_eq, AV.intOf, wl, wn, e0, bytesL_ofBytes, q8, q16, reps_noughts, ← ofBytes_append, eh, ep, w1, w2, k1, k2, k3, k4, k5, k6, k7, k8, k9, es, sl2, w3])
          first
            | done
            | rfl
            | assumption
            | exact ofBytes_plainL _
            | exact u8L_ofBytes _
            | exact ofBytes_cells _
            | (simp [nbeq, nble, ileB_eq, iltB_eq, ofBytes_length, putB_length, hl, h32, sl, c10, u8L_ofBytes, ofBytes_plainL, ofBytes_cells]; done)
            | (simp [nbeq, nble, ileB_eq, iltB_eq, ofBytes_length, putB_length, hl, h32, sl, appRoom]; omega))
      obtain ⟨h', h, hb⟩ := key
      simp only [kept_eq, AV.intOf, wl, wn, e0, bytesL_ofBytes, q8, q16, reps_noughts, ← ofBytes_append, eh, ep, w1, w2, k1, k2, k3, k4, k5, k6, k7, k8, k9, es, sl2, w3] at h hb
      exact fin h' 9 h hb
    have k9 : Nat.beq r.length 0 = false := by rw [nbeq]; exact decide_eq_false h0
    by_cases h4 : r.length = 480
    · have k10 : Nat.beq (480 - r.length) 0 = true := by rw [nbeq]; exact decide_eq_true (by omega)
      have es2 : padB 32 (headB m.toNat p.toNat t.toNat g.toNat r.length) ++ r = shareB m.toNat p.toNat t.toNat g.toNat r := by
        rw [← es, show 480 - r.length = 0 by omega]; simp
      have w4 : 32 + r.length = 512 := by omega
      have key := sb_full m p t g a r.length (ofBytes r)
      iterate 24
        replace key := key (by
          (try simp only [kept_eq, AV.intOf, wl, wn, e0, bytesL_ofBytes, q8, q16, reps_noughts, ← ofBytes_append, eh, ep, w1, w2, k1, k2, k3, k4, k5, k6, k7, k8, k9, k10, es2, sl2, w4])
          first
            | done
            | rfl
            | assumption
            | exact ofBytes_plainL _
            | exact u8L_ofBytes _
            | exact ofBytes_cells _
            | (simp [nbeq, nble, ileB_eq, iltB_eq, ofBytes_length, putB_length, hl, h32, sl, c10, u8L_ofBytes, ofBytes_plainL, ofBytes_cells]; done)
            | (simp [nbeq, nble, ileB_eq, iltB_eq, ofBytes_length, putB_length, hl, h32, sl, appRoom]; omega))
      obtain ⟨h', h, hb⟩ := key
      simp only [kept_eq, AV.intOf, wl, wn, e0, bytesL_ofBytes, q8, q16, reps_noughts, ← ofBytes_append, eh, ep, w1, w2, k1, k2, k3, k4, k5, k6, k7, k8, k9, k10, es2, sl2, w4] at h hb
      exact fin h' 9 h hb
    · have k10 : Nat.beq (480 - r.length) 0 = false := by rw [nbeq]; exact decide_eq_false (by omega)
      have key := sb_ok m p t g a r.length (ofBytes r)
      iterate 27
        replace key := key (by
          (try simp only [kept_eq, AV.intOf, wl, wn, e0, bytesL_ofBytes, q8, q16, reps_noughts, ← ofBytes_append, eh, ep, w1, w2, k1, k2, k3, k4, k5, k6, k7, k8, k9, k10, es, sl2, w3])
          first
            | done
            | rfl
            | assumption
            | exact ofBytes_plainL _
            | exact u8L_ofBytes _
            | exact ofBytes_cells _
            | (simp [nbeq, nble, ileB_eq, iltB_eq, ofBytes_length, putB_length, hl, h32, sl, c10, u8L_ofBytes, ofBytes_plainL, ofBytes_cells]; done)
            | (simp [nbeq, nble, ileB_eq, iltB_eq, ofBytes_length, putB_length, hl, h32, sl, appRoom]; omega))
      obtain ⟨h', h, hb⟩ := key
      simp only [kept_eq, AV.intOf, wl, wn, e0, bytesL_ofBytes, q8, q16, reps_noughts, ← ofBytes_append, eh, ep, w1, w2, k1, k2, k3, k4, k5, k6, k7, k8, k9, k10, es, sl2, w3] at h hb
      exact fin h' 10 h hb
  · cases hm
end Go.Proofs.Ytecncappdnhbaaa
end
end

/- Shares: rows of the function that parses them: the program's text. -/
section
set_option autoImplicit false
set_option linter.unusedVariables false
set_option linter.unusedSimpArgs false
set_option maxRecDepth 100000
noncomputable section
namespace Go.Ab
namespace M
def numB (b : List UInt8) (k w : Nat) : Nat := getN ((b.drop k).take w)
def lenS (b : List UInt8) : Nat := numB b 16 2
def isSB (b : List UInt8) : Bool := decide (b.length = 512) && (b.take 2 == [UInt8.ofNat 76, UInt8.ofNat 83]) && rightS (byteI b 2) (byteI b 3) (lenS b) && (((b.drop 18).take 14).all fun x => x == 0) && ((b.drop (32 + lenS b)).all fun x => x == 0)
end M
open M
structure CutS (b : List UInt8) : Prop where
  s0 : rowCut (ofBytes b) 0 2 = ofBytes (b.take 2)
  s1 : rowCut (ofBytes b) 2 510 = ofBytes (b.drop 2)
  s2 : rowCut (ofBytes (b.drop 2)) 1 509 = ofBytes (b.drop 3)
  s3 : rowCut (ofBytes (b.drop 3)) 1 508 = ofBytes (b.drop 4)
  s4 : rowCut (ofBytes (b.drop 4)) 4 504 = ofBytes (b.drop 8)
  s5 : rowCut (ofBytes (b.drop 8)) 8 496 = ofBytes (b.drop 16)
  t4 : rowCut (ofBytes (b.drop 4)) 0 4 = ofBytes ((b.drop 4).take 4)
  t8 : rowCut (ofBytes (b.drop 8)) 0 8 = ofBytes ((b.drop 8).take 8)
  t2 : rowCut (ofBytes (b.drop 16)) 0 2 = ofBytes ((b.drop 16).take 2)
  s6 : rowCut (ofBytes (b.drop 2)) 0 1 = ofBytes [b.getD 2 0]
  s7 : rowCut (ofBytes (b.drop 3)) 0 1 = ofBytes [b.getD 3 0]
  z1 : rowCut (ofBytes b) 18 14 = ofBytes ((b.drop 18).take 14)
  l0 : (b.take 2).length = 2
  l2 : (b.drop 2).length = 510
  l3 : (b.drop 3).length = 509
  l4 : (b.drop 4).length = 508
  l8 : (b.drop 8).length = 504
  l16 : (b.drop 16).length = 496
  k4 : ((b.drop 4).take 4).length = 4
  k8 : ((b.drop 8).take 8).length = 8
  k2 : ((b.drop 16).take 2).length = 2
  k14 : ((b.drop 18).take 14).length = 14
theorem cutS {b : List UInt8} (h : b.length = 512) : CutS b := by
  have one : ∀ k, k < 512 → (b.drop k).take 1 = [b.getD k 0] := by
    intro k hk
    rw [List.drop_eq_getElem_cons (by omega), List.getD_eq_getElem?_getD, List.getElem?_eq_getElem (by omega)]
    rfl
  constructor
  case s0 => rw [rowCut_ofBytes, List.drop_zero]
  case s1 => rw [rowCut_ofBytes, List.take_of_length_le (by rw [List.length_drop]; omega)]
  case s2 => rw [rowCut_ofBytes, List.drop_drop, List.take_of_length_le (by rw [List.length_drop]; omega)]
  case s3 => rw [rowCut_ofBytes, List.drop_drop, List.take_of_length_le (by rw [List.length_drop]; omega)]
  case s4 => rw [rowCut_ofBytes, List.drop_drop, List.take_of_length_le (by rw [List.length_drop]; omega)]
  case s5 => rw [rowCut_ofBytes, List.drop_drop, List.take_of_length_le (by rw [List.length_drop]; omega)]
  case t4 => rw [rowCut_ofBytes, List.drop_zero]
  case t8 => rw [rowCut_ofBytes, List.drop_zero]
  case t2 => rw [rowCut_ofBytes, List.drop_zero]
  case s6 => rw [rowCut_ofBytes, List.drop_zero, one 2 (by omega)]
  case s7 => rw [rowCut_ofBytes, List.drop_zero, one 3 (by omega)]
  case z1 => rw [rowCut_ofBytes]
  all_goals simp [h]
theorem zero_ofS (t : List UInt8) : zeroL (ofBytes t) = t.all fun x => x == 0 := by
  unfold zeroL; rw [kept_eq, bytesL_ofBytes]
structure CutN (b : List UInt8) (n : Nat) : Prop where
  nI : wrapA .i64 (getI 2 (ofBytes ((b.drop 16).take 2))) = ((n : Nat) : Int)
  w32 : wrapA .i64 ((Int.ofNat 32).add ((n : Nat) : Int)) = ((32 + n : Nat) : Int)
  t32 : ((32 + n : Nat) : Int).toNat = 32 + n
  c32 : rowCut (ofBytes b) ((32 + n) * 1) ((512 - (32 + n)) * 1) = ofBytes (b.drop (32 + n))
  cr : rowCut (ofBytes b) 32 (n * 1) = ofBytes ((b.drop 32).take n)
  ln : 32 + n - 32 = n
  l32 : (b.drop (32 + n)).length = 512 - (32 + n)
  lr : ((b.drop 32).take n).length = n
theorem cutNI {b : List UInt8} (h : b.length = 512) : wrapA .i64 (getI 2 (ofBytes ((b.drop 16).take 2))) = ((lenS b : Nat) : Int) ∧ lenS b < 65536 := by
  have hl : ((b.drop 16).take 2).length = 2 := by simp [h]
  have hlt : lenS b < 65536 := by
    have := getN_lt ((b.drop 16).take 2)
    rw [hl] at this
    exact this
  rw [getI_ofBytes, if_pos (by omega), List.take_of_length_le (by omega)]
  exact ⟨wrapA_nat .i64 (lenS b) (by show _ < 9223372036854775808; omega), hlt⟩
theorem cutN {b : List UInt8} (h : b.length = 512) (hn : lenS b ≤ 480) : CutN b (lenS b) := by
  obtain ⟨h1, h2⟩ := cutNI h
  refine ⟨h1, ?_, rfl, ?_, ?_, by omega, ?_, ?_⟩
  · have : (Int.ofNat 32).add ((lenS b : Nat) : Int) = ((32 + lenS b : Nat) : Int) := by show (32 : Int) + _ = _; omega
    rw [this]; exact wrapA_nat .i64 _ (by show _ < 9223372036854775808; omega)
  · rw [rowCut_ofBytes, Nat.mul_one, Nat.mul_one, List.take_of_length_le (by rw [List.length_drop]; omega)]
  · rw [rowCut_ofBytes, Nat.mul_one]
  · rw [List.length_drop, h]
  · rw [List.length_take, List.length_drop, h]; omega
end Go.Ab
namespace Go.Proofs.Ytecncappdnhbaaa
open Go.Ab.M Go.Ab Go
theorem ps_sign (cs : List AV) (h0 : (cs.length.beq 512) = true) (h1 : ((rowCut cs 0 2).length.beq 2) = true) (h2 : ((bytesOf (rowCut cs 0 2)).isSome) = true) (h3 : (!bytesEq ((bytesOf (rowCut cs 0 2)).getD []) [UInt8.ofNat 76, UInt8.ofNat 83]) = true) :
    ∃ h', aCall C7a 60 (Tgt.fn 53) [AV.fsl false 512 cs] H0 = some (AV.tuple [AV.agg [AV.int IntKind.u8 (Int.ofNat 0), AV.int IntKind.u8 (Int.ofNat 0), AV.int IntKind.u32 (Int.ofNat 0), AV.int IntKind.u64 (Int.ofNat 0), AV.slice none 0 (some 0)], AV.int IntKind.i64 (Int.ofNat 3)], h') ∧ [].map h'.get = [] :=
  call_runT (q := (oc 8 (.y :: (oc 5 (.y :: (oc 6 (.y :: (.y :: (oc 4 (.y :: (oc 10 (.y :: (.y :: (.y :: (oc 1 (.y :: (oc 1 (.y :: (oc 1 (.y :: (.y :: (oc 4 [])))))))))))))))))))))) (c := (Cnd.tst _ true :: Cnd.tst _ true :: Cnd.tst _ true :: Cnd.tst _ true :: Cnd.same (AV.fsl false 512 cs) (AV.fsl false 512 cs) :: Cnd.tst _ true :: Cnd.tst _ true :: Cnd.same (AV.str ((bytesOf (rowCut cs 0 2)).getD [])) (AV.str ((bytesOf (rowCut cs 0 2)).getD [])) :: Cnd.same (AV.bool (bytesEq ((bytesOf (rowCut cs 0 2)).getD []) [UInt8.ofNat 76, UInt8.ofNat 83])) (AV.bool (bytesEq ((bytesOf (rowCut cs 0 2)).getD []) [UInt8.ofNat 76, UInt8.ofNat 83])) :: Cnd.same (AV.bool (bytesEq ((bytesOf (rowCut cs 0 2)).getD []) [UInt8.ofNat 76, UInt8.ofNat 83])) (AV.bool (bytesEq ((bytesOf (rowCut cs 0 2)).getD []) [UInt8.ofNat 76, UInt8.ofNat 83])) :: Cnd.same (AV.bool (bytesEq ((bytesOf (rowCut cs 0 2)).getD []) [UInt8.ofNat 76, UInt8.ofNat 83])) (AV.bool (bytesEq ((bytesOf (rowCut cs 0 2)).getD []) [UInt8.ofNat 76, UInt8.ofNat 83])) :: Cnd.tst _ true :: [])) (by kernel_rfl) ⟨h0, h0, h1, h2, rfl, h1, h2, rfl, rfl, rfl, rfl, h3, trivial⟩
theorem ps_long (cs : List AV) (h0 : (cs.length.beq 512) = true) (h1 : ((rowCut cs 0 2).length.beq 2) = true) (h2 : ((bytesOf (rowCut cs 0 2)).isSome) = true) (h3 : (!bytesEq ((bytesOf (rowCut cs 0 2)).getD []) [UInt8.ofNat 76, UInt8.ofNat 83]) = false) (h4 : ((rowCut cs 2 510).length.beq 510) = true) (h5 : ((rowCut (rowCut cs 2 510) 0 1).length.beq 1) = true) (h6 : (Nat.ble 1 (List.drop 0 (rowCut (rowCut cs 2 510) 0 1)).length) = true) (h7 : (AV.isInt IntKind.u8 ((listAt (List.drop 0 (rowCut (rowCut cs 2 510) 0 1)) 0).getD AV.undef)) = true) (h8 : ((rowCut (rowCut cs 2 510) 1 509).length.beq 509) = true) (h9 : ((rowCut (rowCut (rowCut cs 2 510) 1 509) 0 1).length.beq 1) = true) (h10 : (Nat.ble 1 (List.drop 0 (rowCut (rowCut (rowCut cs 2 510) 1 509) 0 1)).length) = true) (h11 : (AV.isInt IntKind.u8 ((listAt (List.drop 0 (rowCut (rowCut (rowCut cs 2 510) 1 509) 0 1)) 0).getD AV.undef)) = true) (h12 : ((rowCut (rowCut (rowCut cs 2 510) 1 509) 1 508).length.beq 508) = true) (h13 : (AV.plainL (rowCut (rowCut (rowCut (rowCut cs 2 510) 1 509) 1 508) 0 4)) = true) (h14 : ((rowCut (rowCut (rowCut (rowCut cs 2 510) 1 509) 1 508) 0 4).length.beq 4) = true) (h15 : (u8L (rowCut (rowCut (rowCut (rowCut cs 2 510) 1 509) 1 508) 0 4)) = true) (h16 : ((rowCut (rowCut (rowCut (rowCut cs 2 510) 1 509) 1 508) 4 504).length.beq 504) = true) (h17 : (AV.plainL (rowCut (rowCut (rowCut (rowCut (rowCut cs 2 510) 1 509) 1 508) 4 504) 0 8)) = true) (h18 : ((rowCut (rowCut (rowCut (rowCut (rowCut cs 2 510) 1 509) 1 508) 4 504) 0 8).length.beq 8) = true) (h19 : (u8L (rowCut (rowCut (rowCut (rowCut (rowCut cs 2 510) 1 509) 1 508) 4 504) 0 8)) = true) (h20 : ((rowCut (rowCut (rowCut (rowCut (rowCut cs 2 510) 1 509) 1 508) 4 504) 8 496).length.beq 496) = true) (h21 : (AV.plainL (rowCut (rowCut (rowCut (rowCut (rowCut (rowCut cs 2 510) 1 509) 1 508) 4 504) 8 496) 0 2)) = true) (h22 : ((rowCut (rowCut (rowCut (rowCut (rowCut (rowCut cs 2 510) 1 509) 1 508) 4 504) 8 496) 0 2).length.beq 2) = true) (h23 : (u8L (rowCut (rowCut (rowCut (rowCut (rowCut (rowCut cs 2 510) 1 509) 1 508) 4 504) 8 496) 0 2)) = true) (h24 : (iltB (Int.ofNat 480) (wrapA IntKind.i64 (getI 2 (rowCut (rowCut (rowCut (rowCut (rowCut (rowCut cs 2 510) 1 509) 1 508) 4 504) 8 496) 0 2)))) = true) :
    ∃ h', aCall C7a 60 (Tgt.fn 53) [AV.fsl false 512 cs] H0 = some (AV.tuple [AV.agg [AV.int IntKind.u8 (Int.ofNat 0), AV.int IntKind.u8 (Int.ofNat 0), AV.int IntKind.u32 (Int.ofNat 0), AV.int IntKind.u64 (Int.ofNat 0), AV.slice none 0 (some 0)], AV.int IntKind.i64 (Int.ofNat 3)], h') ∧ [].map h'.get = [] :=
  call_runT (q := (oc 8 (.y :: (oc 5 (.y :: (oc 6 (.y :: (.y :: (oc 4 (.y :: (oc 10 (.y :: (.y :: (.y :: (oc 1 (.y :: (oc 1 (.y :: (oc 1 (.y :: (.z :: (oc 3 (.y :: (oc 5 (.y :: (oc 7 (.y :: (.y :: (.y :: (oc 3 (.y :: (oc 5 (.y :: (oc 7 (.y :: (.y :: (.y :: (oc 4 (.y :: (oc 5 (.y :: (oc 5 (.y :: (.y :: (.y :: (oc 4 (.y :: (oc 5 (.y :: (oc 5 (.y :: (.y :: (.y :: (oc 15 (.y :: (oc 5 (.y :: (oc 5 (.y :: (.y :: (.y :: (.y :: (.y :: (.y :: (.y :: (oc 17 [])))))))))))))))))))))))))))))))))))))))))))))))))))))))))))))))))) (c := (Cnd.tst _ true :: Cnd.tst _ true :: Cnd.tst _ true :: Cnd.tst _ true :: Cnd.same (AV.fsl false 512 cs) (AV.fsl false 512 cs) :: Cnd.tst _ true :: Cnd.tst _ true :: Cnd.same (AV.str ((bytesOf (rowCut cs 0 2)).getD [])) (AV.str ((bytesOf (rowCut cs 0 2)).getD [])) :: Cnd.same (AV.bool (bytesEq ((bytesOf (rowCut cs 0 2)).getD []) [UInt8.ofNat 76, UInt8.ofNat 83])) (AV.bool (bytesEq ((bytesOf (rowCut cs 0 2)).getD []) [UInt8.ofNat 76, UInt8.ofNat 83])) :: Cnd.same (AV.bool (bytesEq ((bytesOf (rowCut cs 0 2)).getD []) [UInt8.ofNat 76, UInt8.ofNat 83])) (AV.bool (bytesEq ((bytesOf (rowCut cs 0 2)).getD []) [UInt8.ofNat 76, UInt8.ofNat 83])) :: Cnd.same (AV.bool (bytesEq ((bytesOf (rowCut cs 0 2)).getD []) [UInt8.ofNat 76, UInt8.ofNat 83])) (AV.bool (bytesEq ((bytesOf (rowCut cs 0 2)).getD []) [UInt8.ofNat 76, UInt8.ofNat 83])) :: Cnd.tst _ false :: Cnd.tst _ true :: Cnd.tst _ true :: Cnd.tst _ true :: Cnd.tst _ true :: Cnd.tst _ true :: Cnd.tst _ true :: Cnd.tst _ true :: Cnd.tst _ true :: Cnd.tst _ true :: Cnd.tst _ true :: Cnd.tst _ true :: Cnd.tst _ true :: Cnd.tst _ true :: Cnd.tst _ true :: Cnd.tst _ true :: Cnd.tst _ true :: Cnd.tst _ true :: Cnd.tst _ true :: Cnd.tst _ true :: Cnd.tst _ true :: Cnd.tst _ true :: Cnd.tst _ true :: Cnd.tst _ true :: Cnd.tst _ true :: Cnd.tst _ true :: Cnd.tst _ true :: Cnd.tst _ true :: Cnd.tst _ true :: Cnd.tst _ true :: [])) (by kernel_rfl) ⟨h0, h0, h1, h2, rfl, h1, h2, rfl, rfl, rfl, rfl, h3, h4, h4, h5, h6, h7, h8, h8, h9, h10, h11, h12, h12, h13, h14, h15, h16, h16, h17, h18, h19, h20, h20, h21, h22, h23, h24, h24, h24, h24, trivial⟩
theorem ps_mode (cs : List AV) (h0 : (cs.length.beq 512) = true) (h1 : ((rowCut cs 0 2).length.beq 2) = true) (h2 : ((bytesOf (rowCut cs 0 2)).isSome) = true) (h3 : (!bytesEq ((bytesOf (rowCut cs 0 2)).getD []) [UInt8.ofNat 76, UInt8.ofNat 83]) = false) (h4 : ((rowCut cs 2 510).length.beq 510) = true) (h5 : ((rowCut (rowCut cs 2 510) 0 1).length.beq 1) = true) (h6 : (Nat.ble 1 (List.drop 0 (rowCut (rowCut cs 2 510) 0 1)).length) = true) (h7 : (AV.isInt IntKind.u8 ((listAt (List.drop 0 (rowCut (rowCut cs 2 510) 0 1)) 0).getD AV.undef)) = true) (h8 : ((rowCut (rowCut cs 2 510) 1 509).length.beq 509) = true) (h9 : ((rowCut (rowCut (rowCut cs 2 510) 1 509) 0 1).length.beq 1) = true) (h10 : (Nat.ble 1 (List.drop 0 (rowCut (rowCut (rowCut cs 2 510) 1 509) 0 1)).length) = true) (h11 : (AV.isInt IntKind.u8 ((listAt (List.drop 0 (rowCut (rowCut (rowCut cs 2 510) 1 509) 0 1)) 0).getD AV.undef)) = true) (h12 : ((rowCut (rowCut (rowCut cs 2 510) 1 509) 1 508).length.beq 508) = true) (h13 : (AV.plainL (rowCut (rowCut (rowCut (rowCut cs 2 510) 1 509) 1 508) 0 4)) = true) (h14 : ((rowCut (rowCut (rowCut (rowCut cs 2 510) 1 509) 1 508) 0 4).length.beq 4) = true) (h15 : (u8L (rowCut (rowCut (rowCut (rowCut cs 2 510) 1 509) 1 508) 0 4)) = true) (h16 : ((rowCut (rowCut (rowCut (rowCut cs 2 510) 1 509) 1 508) 4 504).length.beq 504) = true) (h17 : (AV.plainL (rowCut (rowCut (rowCut (rowCut (rowCut cs 2 510) 1 509) 1 508) 4 504) 0 8)) = true) (h18 : ((rowCut (rowCut (rowCut (rowCut (rowCut cs 2 510) 1 509) 1 508) 4 504) 0 8).length.beq 8) = true) (h19 : (u8L (rowCut (rowCut (rowCut (rowCut (rowCut cs 2 510) 1 509) 1 508) 4 504) 0 8)) = true) (h20 : ((rowCut (rowCut (rowCut (rowCut (rowCut cs 2 510) 1 509) 1 508) 4 504) 8 496).length.beq 496) = true) (h21 : (AV.plainL (rowCut (rowCut (rowCut (rowCut (rowCut (rowCut cs 2 510) 1 509) 1 508) 4 504) 8 496) 0 2)) = true) (h22 : ((rowCut (rowCut (rowCut (rowCut (rowCut (rowCut cs 2 510) 1 509) 1 508) 4 504) 8 496) 0 2).length.beq 2) = true) (h23 : (u8L (rowCut (rowCut (rowCut (rowCut (rowCut (rowCut cs 2 510) 1 509) 1 508) 4 504) 8 496) 0 2)) = true) (h24 : (iltB (Int.ofNat 480) (wrapA IntKind.i64 (getI 2 (rowCut (rowCut (rowCut (rowCut (rowCut (rowCut cs 2 510) 1 509) 1 508) 4 504) 8 496) 0 2)))) = false) (h25 : (iltB (AV.int IntKind.u8 ((listAt (List.drop 0 (rowCut (rowCut cs 2 510) 0 1)) 0).getD AV.undef).intOf).intOf (Int.ofNat 2)) = false) :
    ∃ h', aCall C7a 60 (Tgt.fn 53) [AV.fsl false 512 cs] H0 = some (AV.tuple [AV.agg [AV.int IntKind.u8 (Int.ofNat 0), AV.int IntKind.u8 (Int.ofNat 0), AV.int IntKind.u32 (Int.ofNat 0), AV.int IntKind.u64 (Int.ofNat 0), AV.slice none 0 (some 0)], AV.int IntKind.i64 (Int.ofNat 3)], h') ∧ [].map h'.get = [] :=
  call_runT (q := (oc 8 (.y :: (oc 5 (.y :: (oc 6 (.y :: (.y :: (oc 4 (.y :: (oc 10 (.y :: (.y :: (.y :: (oc 1 (.y :: (oc 1 (.y :: (oc 1 (.y :: (.z :: (oc 3 (.y :: (oc 5 (.y :: (oc 7 (.y :: (.y :: (.y :: (oc 3 (.y :: (oc 5 (.y :: (oc 7 (.y :: (.y :: (.y :: (oc 4 (.y :: (oc 5 (.y :: (oc 5 (.y :: (.y :: (.y :: (oc 4 (.y :: (oc 5 (.y :: (oc 5 (.y :: (.y :: (.y :: (oc 15 (.y :: (oc 5 (.y :: (oc 5 (.y :: (.y :: (.y :: (.z :: (oc 1 (.z :: (oc 3 (.z :: (.z :: (.z :: (.z :: (oc 5 (.z :: (.z :: (oc 17 []))))))))))))))))))))))))))))))))))))))))))))))))))))))))))))))))))))))))) (c := (Cnd.tst _ true :: Cnd.tst _ true :: Cnd.tst _ true :: Cnd.tst _ true :: Cnd.same (AV.fsl false 512 cs) (AV.fsl false 512 cs) :: Cnd.tst _ true :: Cnd.tst _ true :: Cnd.same (AV.str ((bytesOf (rowCut cs 0 2)).getD [])) (AV.str ((bytesOf (rowCut cs 0 2)).getD [])) :: Cnd.same (AV.bool (bytesEq ((bytesOf (rowCut cs 0 2)).getD []) [UInt8.ofNat 76, UInt8.ofNat 83])) (AV.bool (bytesEq ((bytesOf (rowCut cs 0 2)).getD []) [UInt8.ofNat 76, UInt8.ofNat 83])) :: Cnd.same (AV.bool (bytesEq ((bytesOf (rowCut cs 0 2)).getD []) [UInt8.ofNat 76, UInt8.ofNat 83])) (AV.bool (bytesEq ((bytesOf (rowCut cs 0 2)).getD []) [UInt8.ofNat 76, UInt8.ofNat 83])) :: Cnd.same (AV.bool (bytesEq ((bytesOf (rowCut cs 0 2)).getD []) [UInt8.ofNat 76, UInt8.ofNat 83])) (AV.bool (bytesEq ((bytesOf (rowCut cs 0 2)).getD []) [UInt8.ofNat 76, UInt8.ofNat 83])) :: Cnd.tst _ false :: Cnd.tst _ true :: Cnd.tst _ true :: Cnd.tst _ true :: Cnd.tst _ true :: Cnd.tst _ true :: Cnd.tst _ true :: Cnd.tst _ true :: Cnd.tst _ true :: Cnd.tst _ true :: Cnd.tst _ true :: Cnd.tst _ true :: Cnd.tst _ true :: Cnd.tst _ true :: Cnd.tst _ true :: Cnd.tst _ true :: Cnd.tst _ true :: Cnd.tst _ true :: Cnd.tst _ true :: Cnd.tst _ true :: Cnd.tst _ true :: Cnd.tst _ true :: Cnd.tst _ true :: Cnd.tst _ true :: Cnd.tst _ true :: Cnd.tst _ true :: Cnd.tst _ false :: Cnd.tst _ false :: Cnd.tst _ false :: Cnd.tst _ false :: Cnd.tst _ false :: Cnd.tst _ false :: Cnd.tst _ false :: Cnd.tst _ false :: [])) (by kernel_rfl) ⟨h0, h0, h1, h2, rfl, h1, h2, rfl, rfl, rfl, rfl, h3, h4, h4, h5, h6, h7, h8, h8, h9, h10, h11, h12, h12, h13, h14, h15, h16, h16, h17, h18, h19, h20, h20, h21, h22, h23, h24, h24, h25, h25, h25, h25, h24, h24, trivial⟩
theorem ps_place (cs : List AV) (h0 : (cs.length.beq 512) = true) (h1 : ((rowCut cs 0 2).length.beq 2) = true) (h2 : ((bytesOf (rowCut cs 0 2)).isSome) = true) (h3 : (!bytesEq ((bytesOf (rowCut cs 0 2)).getD []) [UInt8.ofNat 76, UInt8.ofNat 83]) = false) (h4 : ((rowCut cs 2 510).length.beq 510) = true) (h5 : ((rowCut (rowCut cs 2 510) 0 1).length.beq 1) = true) (h6 : (Nat.ble 1 (List.drop 0 (rowCut (rowCut cs 2 510) 0 1)).length) = true) (h7 : (AV.isInt IntKind.u8 ((listAt (List.drop 0 (rowCut (rowCut cs 2 510) 0 1)) 0).getD AV.undef)) = true) (h8 : ((rowCut (rowCut cs 2 510) 1 509).length.beq 509) = true) (h9 : ((rowCut (rowCut (rowCut cs 2 510) 1 509) 0 1).length.beq 1) = true) (h10 : (Nat.ble 1 (List.drop 0 (rowCut (rowCut (rowCut cs 2 510) 1 509) 0 1)).length) = true) (h11 : (AV.isInt IntKind.u8 ((listAt (List.drop 0 (rowCut (rowCut (rowCut cs 2 510) 1 509) 0 1)) 0).getD AV.undef)) = true) (h12 : ((rowCut (rowCut (rowCut cs 2 510) 1 509) 1 508).length.beq 508) = true) (h13 : (AV.plainL (rowCut (rowCut (rowCut (rowCut cs 2 510) 1 509) 1 508) 0 4)) = true) (h14 : ((rowCut (rowCut (rowCut (rowCut cs 2 510) 1 509) 1 508) 0 4).length.beq 4) = true) (h15 : (u8L (rowCut (rowCut (rowCut (rowCut cs 2 510) 1 509) 1 508) 0 4)) = true) (h16 : ((rowCut (rowCut (rowCut (rowCut cs 2 510) 1 509) 1 508) 4 504).length.beq 504) = true) (h17 : (AV.plainL (rowCut (rowCut (rowCut (rowCut (rowCut cs 2 510) 1 509) 1 508) 4 504) 0 8)) = true) (h18 : ((rowCut (rowCut (rowCut (rowCut (rowCut cs 2 510) 1 509) 1 508) 4 504) 0 8).length.beq 8) = true) (h19 : (u8L (rowCut (rowCut (rowCut (rowCut (rowCut cs 2 510) 1 509) 1 508) 4 504) 0 8)) = true) (h20 : ((rowCut (rowCut (rowCut (rowCut (rowCut cs 2 510) 1 509) 1 508) 4 504) 8 496).length.beq 496) = true) (h21 : (AV.plainL (rowCut (rowCut (rowCut (rowCut (rowCut (rowCut cs 2 510) 1 509) 1 508) 4 504) 8 496) 0 2)) = true) (h22 : ((rowCut (rowCut (rowCut (rowCut (rowCut (rowCut cs 2 510) 1 509) 1 508) 4 504) 8 496) 0 2).length.beq 2) = true) (h23 : (u8L (rowCut (rowCut (rowCut (rowCut (rowCut (rowCut cs 2 510) 1 509) 1 508) 4 504) 8 496) 0 2)) = true) (h24 : (iltB (Int.ofNat 480) (wrapA IntKind.i64 (getI 2 (rowCut (rowCut (rowCut (rowCut (rowCut (rowCut cs 2 510) 1 509) 1 508) 4 504) 8 496) 0 2)))) = false) (h25 : (iltB (AV.int IntKind.u8 ((listAt (List.drop 0 (rowCut (rowCut cs 2 510) 0 1)) 0).getD AV.undef).intOf).intOf (Int.ofNat 2)) = true) (h26 : (iltB (Int.ofNat 0) (AV.int IntKind.u8 ((listAt (List.drop 0 (rowCut (rowCut (rowCut cs 2 510) 1 509) 0 1)) 0).getD AV.undef).intOf).intOf) = false) :
    ∃ h', aCall C7a 60 (Tgt.fn 53) [AV.fsl false 512 cs] H0 = some (AV.tuple [AV.agg [AV.int IntKind.u8 (Int.ofNat 0), AV.int IntKind.u8 (Int.ofNat 0), AV.int IntKind.u32 (Int.ofNat 0), AV.int IntKind.u64 (Int.ofNat 0), AV.slice none 0 (some 0)], AV.int IntKind.i64 (Int.ofNat 3)], h') ∧ [].map h'.get = [] :=
  call_runT (q := (oc 8 (.y :: (oc 5 (.y :: (oc 6 (.y :: (.y :: (oc 4 (.y :: (oc 10 (.y :: (.y :: (.y :: (oc 1 (.y :: (oc 1 (.y :: (oc 1 (.y :: (.z :: (oc 3 (.y :: (oc 5 (.y :: (oc 7 (.y :: (.y :: (.y :: (oc 3 (.y :: (oc 5 (.y :: (oc 7 (.y :: (.y :: (.y :: (oc 4 (.y :: (oc 5 (.y :: (oc 5 (.y :: (.y :: (.y :: (oc 4 (.y :: (oc 5 (.y :: (oc 5 (.y :: (.y :: (.y :: (oc 15 (.y :: (oc 5 (.y :: (oc 5 (.y :: (.y :: (.y :: (.z :: (oc 1 (.z :: (oc 3 (.y :: (.y :: (oc 3 (.y :: (.y :: (.z :: (.z :: (.z :: (.z :: (.z :: (.z :: (.z :: (oc 17 [])))))))))))))))))))))))))))))))))))))))))))))))))))))))))))))))))))))))))))))) (c := (Cnd.tst _ true :: Cnd.tst _ true :: Cnd.tst _ true :: Cnd.tst _ true :: Cnd.same (AV.fsl false 512 cs) (AV.fsl false 512 cs) :: Cnd.tst _ true :: Cnd.tst _ true :: Cnd.same (AV.str ((bytesOf (rowCut cs 0 2)).getD [])) (AV.str ((bytesOf (rowCut cs 0 2)).getD [])) :: Cnd.same (AV.bool (bytesEq ((bytesOf (rowCut cs 0 2)).getD []) [UInt8.ofNat 76, UInt8.ofNat 83])) (AV.bool (bytesEq ((bytesOf (rowCut cs 0 2)).getD []) [UInt8.ofNat 76, UInt8.ofNat 83])) :: Cnd.same (AV.bool (bytesEq ((bytesOf (rowCut cs 0 2)).getD []) [UInt8.ofNat 76, UInt8.ofNat 83])) (AV.bool (bytesEq ((bytesOf (rowCut cs 0 2)).getD []) [UInt8.ofNat 76, UInt8.ofNat 83])) :: Cnd.same (AV.bool (bytesEq ((bytesOf (rowCut cs 0 2)).getD []) [UInt8.ofNat 76, UInt8.ofNat 83])) (AV.bool (bytesEq ((bytesOf (rowCut cs 0 2)).getD []) [UInt8.ofNat 76, UInt8.ofNat 83])) :: Cnd.tst _ false :: Cnd.tst _ true :: Cnd.tst _ true :: Cnd.tst _ true :: Cnd.tst _ true :: Cnd.tst _ true :: Cnd.tst _ true :: Cnd.tst _ true :: Cnd.tst _ true :: Cnd.tst _ true :: Cnd.tst _ true :: Cnd.tst _ true :: Cnd.tst _ true :: Cnd.tst _ true :: Cnd.tst _ true :: Cnd.tst _ true :: Cnd.tst _ true :: Cnd.tst _ true :: Cnd.tst _ true :: Cnd.tst _ true :: Cnd.tst _ true :: Cnd.tst _ true :: Cnd.tst _ true :: Cnd.tst _ true :: Cnd.tst _ true :: Cnd.tst _ true :: Cnd.tst _ false :: Cnd.tst _ false :: Cnd.tst _ true :: Cnd.tst _ true :: Cnd.tst _ true :: Cnd.tst _ true :: Cnd.tst _ false :: Cnd.tst _ false :: Cnd.tst _ false :: Cnd.tst _ false :: Cnd.tst _ false :: Cnd.tst _ false :: Cnd.tst _ false :: [])) (by kernel_rfl) ⟨h0, h0, h1, h2, rfl, h1, h2, rfl, rfl, rfl, rfl, h3, h4, h4, h5, h6, h7, h8, h8, h9, h10, h11, h12, h12, h13, h14, h15, h16, h16, h17, h18, h19, h20, h20, h21, h22, h23, h24, h24, h25, h25, h25, h25, h26, h26, h26, h26, h26, h24, h24, trivial⟩
theorem ps_z1 (cs : List AV) (h0 : (cs.length.beq 512) = true) (h1 : ((rowCut cs 0 2).length.beq 2) = true) (h2 : ((bytesOf (rowCut cs 0 2)).isSome) = true) (h3 : (!bytesEq ((bytesOf (rowCut cs 0 2)).getD []) [UInt8.ofNat 76, UInt8.ofNat 83]) = false) (h4 : ((rowCut cs 2 510).length.beq 510) = true) (h5 : ((rowCut (rowCut cs 2 510) 0 1).length.beq 1) = true) (h6 : (Nat.ble 1 (List.drop 0 (rowCut (rowCut cs 2 510) 0 1)).length) = true) (h7 : (AV.isInt IntKind.u8 ((listAt (List.drop 0 (rowCut (rowCut cs 2 510) 0 1)) 0).getD AV.undef)) = true) (h8 : ((rowCut (rowCut cs 2 510) 1 509).length.beq 509) = true) (h9 : ((rowCut (rowCut (rowCut cs 2 510) 1 509) 0 1).length.beq 1) = true) (h10 : (Nat.ble 1 (List.drop 0 (rowCut (rowCut (rowCut cs 2 510) 1 509) 0 1)).length) = true) (h11 : (AV.isInt IntKind.u8 ((listAt (List.drop 0 (rowCut (rowCut (rowCut cs 2 510) 1 509) 0 1)) 0).getD AV.undef)) = true) (h12 : ((rowCut (rowCut (rowCut cs 2 510) 1 509) 1 508).length.beq 508) = true) (h13 : (AV.plainL (rowCut (rowCut (rowCut (rowCut cs 2 510) 1 509) 1 508) 0 4)) = true) (h14 : ((rowCut (rowCut (rowCut (rowCut cs 2 510) 1 509) 1 508) 0 4).length.beq 4) = true) (h15 : (u8L (rowCut (rowCut (rowCut (rowCut cs 2 510) 1 509) 1 508) 0 4)) = true) (h16 : ((rowCut (rowCut (rowCut (rowCut cs 2 510) 1 509) 1 508) 4 504).length.beq 504) = true) (h17 : (AV.plainL (rowCut (rowCut (rowCut (rowCut (rowCut cs 2 510) 1 509) 1 508) 4 504) 0 8)) = true) (h18 : ((rowCut (rowCut (rowCut (rowCut (rowCut cs 2 510) 1 509) 1 508) 4 504) 0 8).length.beq 8) = true) (h19 : (u8L (rowCut (rowCut (rowCut (rowCut (rowCut cs 2 510) 1 509) 1 508) 4 504) 0 8)) = true) (h20 : ((rowCut (rowCut (rowCut (rowCut (rowCut cs 2 510) 1 509) 1 508) 4 504) 8 496).length.beq 496) = true) (h21 : (AV.plainL (rowCut (rowCut (rowCut (rowCut (rowCut (rowCut cs 2 510) 1 509) 1 508) 4 504) 8 496) 0 2)) = true) (h22 : ((rowCut (rowCut (rowCut (rowCut (rowCut (rowCut cs 2 510) 1 509) 1 508) 4 504) 8 496) 0 2).length.beq 2) = true) (h23 : (u8L (rowCut (rowCut (rowCut (rowCut (rowCut (rowCut cs 2 510) 1 509) 1 508) 4 504) 8 496) 0 2)) = true) (h24 : (iltB (Int.ofNat 480) (wrapA IntKind.i64 (getI 2 (rowCut (rowCut (rowCut (rowCut (rowCut (rowCut cs 2 510) 1 509) 1 508) 4 504) 8 496) 0 2)))) = false) (h25 : (iltB (AV.int IntKind.u8 ((listAt (List.drop 0 (rowCut (rowCut cs 2 510) 0 1)) 0).getD AV.undef).intOf).intOf (Int.ofNat 2)) = true) (h26 : (iltB (Int.ofNat 0) (AV.int IntKind.u8 ((listAt (List.drop 0 (rowCut (rowCut (rowCut cs 2 510) 1 509) 0 1)) 0).getD AV.undef).intOf).intOf) = true) (h27 : (AV.plainL (rowCut cs 18 14)) = true) (h28 : (u8L (rowCut cs 18 14)) = true) (h29 : ((rowCut cs 18 14).length.beq 14) = true) (h30 : (!zeroL (rowCut cs 18 14)) = true) :
    ∃ h', aCall C7a 60 (Tgt.fn 53) [AV.fsl false 512 cs] H0 = some (AV.tuple [AV.agg [AV.int IntKind.u8 (Int.ofNat 0), AV.int IntKind.u8 (Int.ofNat 0), AV.int IntKind.u32 (Int.ofNat 0), AV.int IntKind.u64 (Int.ofNat 0), AV.slice none 0 (some 0)], AV.int IntKind.i64 (Int.ofNat 3)], h') ∧ [].map h'.get = [] :=
  call_runT (q := (oc 8 (.y :: (oc 5 (.y :: (oc 6 (.y :: (.y :: (oc 4 (.y :: (oc 10 (.y :: (.y :: (.y :: (oc 1 (.y :: (oc 1 (.y :: (oc 1 (.y :: (.z :: (oc 3 (.y :: (oc 5 (.y :: (oc 7 (.y :: (.y :: (.y :: (oc 3 (.y :: (oc 5 (.y :: (oc 7 (.y :: (.y :: (.y :: (oc 4 (.y :: (oc 5 (.y :: (oc 5 (.y :: (.y :: (.y :: (oc 4 (.y :: (oc 5 (.y :: (oc 5 (.y :: (.y :: (.y :: (oc 15 (.y :: (oc 5 (.y :: (oc 5 (.y :: (.y :: (.y :: (.z :: (oc 1 (.z :: (oc 3 (.y :: (.y :: (oc 3 (.y :: (.y :: (.y :: (.y :: (oc 3 (.y :: (.y :: (.y :: (.z :: (.z :: (oc 2 (.y :: (oc 5 (.y :: (.y :: (.y :: (oc 3 (.y :: (.y :: (.y :: (.y :: (.y :: (.y :: (.y :: (oc 5 []))))))))))))))))))))))))))))))))))))))))))))))))))))))))))))))))))))))))))))))))))))))))))))) (c := (Cnd.tst _ true :: Cnd.tst _ true :: Cnd.tst _ true :: Cnd.tst _ true :: Cnd.same (AV.fsl false 512 cs) (AV.fsl false 512 cs) :: Cnd.tst _ true :: Cnd.tst _ true :: Cnd.same (AV.str ((bytesOf (rowCut cs 0 2)).getD [])) (AV.str ((bytesOf (rowCut cs 0 2)).getD [])) :: Cnd.same (AV.bool (bytesEq ((bytesOf (rowCut cs 0 2)).getD []) [UInt8.ofNat 76, UInt8.ofNat 83])) (AV.bool (bytesEq ((bytesOf (rowCut cs 0 2)).getD []) [UInt8.ofNat 76, UInt8.ofNat 83])) :: Cnd.same (AV.bool (bytesEq ((bytesOf (rowCut cs 0 2)).getD []) [UInt8.ofNat 76, UInt8.ofNat 83])) (AV.bool (bytesEq ((bytesOf (rowCut cs 0 2)).getD []) [UInt8.ofNat 76, UInt8.ofNat 83])) :: Cnd.same (AV.bool (bytesEq ((bytesOf (rowCut cs 0 2)).getD []) [UInt8.ofNat 76, UInt8.ofNat 83])) (AV.bool (bytesEq ((bytesOf (rowCut cs 0 2)).getD []) [UInt8.ofNat 76, UInt8.ofNat 83])) :: Cnd.tst _ false :: Cnd.tst _ true :: Cnd.tst _ true :: Cnd.tst _ true :: Cnd.tst _ true :: Cnd.tst _ true :: Cnd.tst _ true :: Cnd.tst _ true :: Cnd.tst _ true :: Cnd.tst _ true :: Cnd.tst _ true :: Cnd.tst _ true :: Cnd.tst _ true :: Cnd.tst _ true :: Cnd.tst _ true :: Cnd.tst _ true :: Cnd.tst _ true :: Cnd.tst _ true :: Cnd.tst _ true :: Cnd.tst _ true :: Cnd.tst _ true :: Cnd.tst _ true :: Cnd.tst _ true :: Cnd.tst _ true :: Cnd.tst _ true :: Cnd.tst _ true :: Cnd.tst _ false :: Cnd.tst _ false :: Cnd.tst _ true :: Cnd.tst _ true :: Cnd.tst _ true :: Cnd.tst _ true :: Cnd.tst _ true :: Cnd.tst _ true :: Cnd.tst _ true :: Cnd.tst _ true :: Cnd.tst _ true :: Cnd.tst _ false :: Cnd.tst _ false :: Cnd.tst _ true :: Cnd.tst _ true :: Cnd.tst _ true :: Cnd.tst _ true :: Cnd.tst _ true :: Cnd.tst _ true :: Cnd.tst _ true :: Cnd.tst _ true :: Cnd.tst _ true :: Cnd.tst _ true :: Cnd.tst _ true :: [])) (by kernel_rfl) ⟨h0, h0, h1, h2, rfl, h1, h2, rfl, rfl, rfl, rfl, h3, h4, h4, h5, h6, h7, h8, h8, h9, h10, h11, h12, h12, h13, h14, h15, h16, h16, h17, h18, h19, h20, h20, h21, h22, h23, h24, h24, h25, h25, h25, h25, h26, h26, h26, h26, h26, h24, h24, h0, h27, h28, h29, h30, h30, h30, h30, h30, h30, h30, trivial⟩
theorem ps_z2 (cs : List AV) (h0 : (cs.length.beq 512) = true) (h1 : ((rowCut cs 0 2).length.beq 2) = true) (h2 : ((bytesOf (rowCut cs 0 2)).isSome) = true) (h3 : (!bytesEq ((bytesOf (rowCut cs 0 2)).getD []) [UInt8.ofNat 76, UInt8.ofNat 83]) = false) (h4 : ((rowCut cs 2 510).length.beq 510) = true) (h5 : ((rowCut (rowCut cs 2 510) 0 1).length.beq 1) = true) (h6 : (Nat.ble 1 (List.drop 0 (rowCut (rowCut cs 2 510) 0 1)).length) = true) (h7 : (AV.isInt IntKind.u8 ((listAt (List.drop 0 (rowCut (rowCut cs 2 510) 0 1)) 0).getD AV.undef)) = true) (h8 : ((rowCut (rowCut cs 2 510) 1 509).length.beq 509) = true) (h9 : ((rowCut (rowCut (rowCut cs 2 510) 1 509) 0 1).length.beq 1) = true) (h10 : (Nat.ble 1 (List.drop 0 (rowCut (rowCut (rowCut cs 2 510) 1 509) 0 1)).length) = true) (h11 : (AV.isInt IntKind.u8 ((listAt (List.drop 0 (rowCut (rowCut (rowCut cs 2 510) 1 509) 0 1)) 0).getD AV.undef)) = true) (h12 : ((rowCut (rowCut (rowCut cs 2 510) 1 509) 1 508).length.beq 508) = true) (h13 : (AV.plainL (rowCut (rowCut (rowCut (rowCut cs 2 510) 1 509) 1 508) 0 4)) = true) (h14 : ((rowCut (rowCut (rowCut (rowCut cs 2 510) 1 509) 1 508) 0 4).length.beq 4) = true) (h15 : (u8L (rowCut (rowCut (rowCut (rowCut cs 2 510) 1 509) 1 508) 0 4)) = true) (h16 : ((rowCut (rowCut (rowCut (rowCut cs 2 510) 1 509) 1 508) 4 504).length.beq 504) = true) (h17 : (AV.plainL (rowCut (rowCut (rowCut (rowCut (rowCut cs 2 510) 1 509) 1 508) 4 504) 0 8)) = true) (h18 : ((rowCut (rowCut (rowCut (rowCut (rowCut cs 2 510) 1 509) 1 508) 4 504) 0 8).length.beq 8) = true) (h19 : (u8L (rowCut (rowCut (rowCut (rowCut (rowCut cs 2 510) 1 509) 1 508) 4 504) 0 8)) = true) (h20 : ((rowCut (rowCut (rowCut (rowCut (rowCut cs 2 510) 1 509) 1 508) 4 504) 8 496).length.beq 496) = true) (h21 : (AV.plainL (rowCut (rowCut (rowCut (rowCut (rowCut (rowCut cs 2 510) 1 509) 1 508) 4 504) 8 496) 0 2)) = true) (h22 : ((rowCut (rowCut (rowCut (rowCut (rowCut (rowCut cs 2 510) 1 509) 1 508) 4 504) 8 496) 0 2).length.beq 2) = true) (h23 : (u8L (rowCut (rowCut (rowCut (rowCut (rowCut (rowCut cs 2 510) 1 509) 1 508) 4 504) 8 496) 0 2)) = true) (h24 : (iltB (Int.ofNat 480) (wrapA IntKind.i64 (getI 2 (rowCut (rowCut (rowCut (rowCut (rowCut (rowCut cs 2 510) 1 509) 1 508) 4 504) 8 496) 0 2)))) = false) (h25 : (iltB (AV.int IntKind.u8 ((listAt (List.drop 0 (rowCut (rowCut cs 2 510) 0 1)) 0).getD AV.undef).intOf).intOf (Int.ofNat 2)) = true) (h26 : (iltB (Int.ofNat 0) (AV.int IntKind.u8 ((listAt (List.drop 0 (rowCut (rowCut (rowCut cs 2 510) 1 509) 0 1)) 0).getD AV.undef).intOf).intOf) = true) (h27 : (AV.plainL (rowCut cs 18 14)) = true) (h28 : (u8L (rowCut cs 18 14)) = true) (h29 : ((rowCut cs 18 14).length.beq 14) = true) (h30 : (!zeroL (rowCut cs 18 14)) = false) (h31 : (ileB (Int.ofNat 0) (wrapA IntKind.i64 ((Int.ofNat 32).add (wrapA IntKind.i64 (getI 2 (rowCut (rowCut (rowCut (rowCut (rowCut (rowCut cs 2 510) 1 509) 1 508) 4 504) 8 496) 0 2)))))) = true) (h32 : ((wrapA IntKind.i64 ((Int.ofNat 32).add (wrapA IntKind.i64 (getI 2 (rowCut (rowCut (rowCut (rowCut (rowCut (rowCut cs 2 510) 1 509) 1 508) 4 504) 8 496) 0 2))))).toNat.ble 512) = true) (h33 : (AV.plainL (rowCut cs ((wrapA IntKind.i64 ((Int.ofNat 32).add (wrapA IntKind.i64 (getI 2 (rowCut (rowCut (rowCut (rowCut (rowCut (rowCut cs 2 510) 1 509) 1 508) 4 504) 8 496) 0 2))))).toNat * 1) ((512 - (wrapA IntKind.i64 ((Int.ofNat 32).add (wrapA IntKind.i64 (getI 2 (rowCut (rowCut (rowCut (rowCut (rowCut (rowCut cs 2 510) 1 509) 1 508) 4 504) 8 496) 0 2))))).toNat) * 1))) = true) (h34 : (u8L (rowCut cs ((wrapA IntKind.i64 ((Int.ofNat 32).add (wrapA IntKind.i64 (getI 2 (rowCut (rowCut (rowCut (rowCut (rowCut (rowCut cs 2 510) 1 509) 1 508) 4 504) 8 496) 0 2))))).toNat * 1) ((512 - (wrapA IntKind.i64 ((Int.ofNat 32).add (wrapA IntKind.i64 (getI 2 (rowCut (rowCut (rowCut (rowCut (rowCut (rowCut cs 2 510) 1 509) 1 508) 4 504) 8 496) 0 2))))).toNat) * 1))) = true) (h35 : ((rowCut cs ((wrapA IntKind.i64 ((Int.ofNat 32).add (wrapA IntKind.i64 (getI 2 (rowCut (rowCut (rowCut (rowCut (rowCut (rowCut cs 2 510) 1 509) 1 508) 4 504) 8 496) 0 2))))).toNat * 1) ((512 - (wrapA IntKind.i64 ((Int.ofNat 32).add (wrapA IntKind.i64 (getI 2 (rowCut (rowCut (rowCut (rowCut (rowCut (rowCut cs 2 510) 1 509) 1 508) 4 504) 8 496) 0 2))))).toNat) * 1)).length.beq (512 - (wrapA IntKind.i64 ((Int.ofNat 32).add (wrapA IntKind.i64 (getI 2 (rowCut (rowCut (rowCut (rowCut (rowCut (rowCut cs 2 510) 1 509) 1 508) 4 504) 8 496) 0 2))))).toNat)) = true) (h36 : ((512 - (wrapA IntKind.i64 ((Int.ofNat 32).add (wrapA IntKind.i64 (getI 2 (rowCut (rowCut (rowCut (rowCut (rowCut (rowCut cs 2 510) 1 509) 1 508) 4 504) 8 496) 0 2))))).toNat).ble 1000000000000) = true) (h37 : (!zeroL (rowCut cs ((wrapA IntKind.i64 ((Int.ofNat 32).add (wrapA IntKind.i64 (getI 2 (rowCut (rowCut (rowCut (rowCut (rowCut (rowCut cs 2 510) 1 509) 1 508) 4 504) 8 496) 0 2))))).toNat * 1) ((512 - (wrapA IntKind.i64 ((Int.ofNat 32).add (wrapA IntKind.i64 (getI 2 (rowCut (rowCut (rowCut (rowCut (rowCut (rowCut cs 2 510) 1 509) 1 508) 4 504) 8 496) 0 2))))).toNat) * 1))) = true) :
    ∃ h', aCall C7a 60 (Tgt.fn 53) [AV.fsl false 512 cs] H0 = some (AV.tuple [AV.agg [AV.int IntKind.u8 (Int.ofNat 0), AV.int IntKind.u8 (Int.ofNat 0), AV.int IntKind.u32 (Int.ofNat 0), AV.int IntKind.u64 (Int.ofNat 0), AV.slice none 0 (some 0)], AV.int IntKind.i64 (Int.ofNat 3)], h') ∧ [].map h'.get = [] :=
  call_runT (q := (oc 8 (.y :: (oc 5 (.y :: (oc 6 (.y :: (.y :: (oc 4 (.y :: (oc 10 (.y :: (.y :: (.y :: (oc 1 (.y :: (oc 1 (.y :: (oc 1 (.y :: (.z :: (oc 3 (.y :: (oc 5 (.y :: (oc 7 (.y :: (.y :: (.y :: (oc 3 (.y :: (oc 5 (.y :: (oc 7 (.y :: (.y :: (.y :: (oc 4 (.y :: (oc 5 (.y :: (oc 5 (.y :: (.y :: (.y :: (oc 4 (.y :: (oc 5 (.y :: (oc 5 (.y :: (.y :: (.y :: (oc 15 (.y :: (oc 5 (.y :: (oc 5 (.y :: (.y :: (.y :: (.z :: (oc 1 (.z :: (oc 3 (.y :: (.y :: (oc 3 (.y :: (.y :: (.y :: (.y :: (oc 3 (.y :: (.y :: (.y :: (.z :: (.z :: (oc 2 (.y :: (oc 5 (.y :: (.y :: (.y :: (oc 3 (.z :: (.z :: (.z :: (.z :: (.y :: (.y :: (.y :: (.z :: (.y :: (.y :: (.y :: (.y :: (.z :: (.z :: (.y :: (oc 4 []))))))))))))))))))))))))))))))))))))))))))))))))))))))))))))))))))))))))))))))))))))))))))))))))))))) (c := (Cnd.tst _ true :: Cnd.tst _ true :: Cnd.tst _ true :: Cnd.tst _ true :: Cnd.same (AV.fsl false 512 cs) (AV.fsl false 512 cs) :: Cnd.tst _ true :: Cnd.tst _ true :: Cnd.same (AV.str ((bytesOf (rowCut cs 0 2)).getD [])) (AV.str ((bytesOf (rowCut cs 0 2)).getD [])) :: Cnd.same (AV.bool (bytesEq ((bytesOf (rowCut cs 0 2)).getD []) [UInt8.ofNat 76, UInt8.ofNat 83])) (AV.bool (bytesEq ((bytesOf (rowCut cs 0 2)).getD []) [UInt8.ofNat 76, UInt8.ofNat 83])) :: Cnd.same (AV.bool (bytesEq ((bytesOf (rowCut cs 0 2)).getD []) [UInt8.ofNat 76, UInt8.ofNat 83])) (AV.bool (bytesEq ((bytesOf (rowCut cs 0 2)).getD []) [UInt8.ofNat 76, UInt8.ofNat 83])) :: Cnd.same (AV.bool (bytesEq ((bytesOf (rowCut cs 0 2)).getD []) [UInt8.ofNat 76, UInt8.ofNat 83])) (AV.bool (bytesEq ((bytesOf (rowCut cs 0 2)).getD []) [UInt8.ofNat 76, UInt8.ofNat 83])) :: Cnd.tst _ false :: Cnd.tst _ true :: Cnd.tst _ true :: Cnd.tst _ true :: Cnd.tst _ true :: Cnd.tst _ true :: Cnd.tst _ true :: Cnd.tst _ true :: Cnd.tst _ true :: Cnd.tst _ true :: Cnd.tst _ true :: Cnd.tst _ true :: Cnd.tst _ true :: Cnd.tst _ true :: Cnd.tst _ true :: Cnd.tst _ true :: Cnd.tst _ true :: Cnd.tst _ true :: Cnd.tst _ true :: Cnd.tst _ true :: Cnd.tst _ true :: Cnd.tst _ true :: Cnd.tst _ true :: Cnd.tst _ true :: Cnd.tst _ true :: Cnd.tst _ true :: Cnd.tst _ false :: Cnd.tst _ false :: Cnd.tst _ true :: Cnd.tst _ true :: Cnd.tst _ true :: Cnd.tst _ true :: Cnd.tst _ true :: Cnd.tst _ true :: Cnd.tst _ true :: Cnd.tst _ true :: Cnd.tst _ true :: Cnd.tst _ false :: Cnd.tst _ false :: Cnd.tst _ true :: Cnd.tst _ true :: Cnd.tst _ true :: Cnd.tst _ true :: Cnd.tst _ false :: Cnd.tst _ false :: Cnd.tst _ false :: Cnd.tst _ false :: Cnd.tst _ true :: Cnd.tst _ true :: Cnd.tst _ true :: Cnd.tst _ false :: Cnd.tst _ true :: Cnd.tst _ true :: Cnd.tst _ true :: Cnd.tst _ true :: Cnd.tst _ false :: Cnd.tst _ false :: Cnd.tst _ true :: [])) (by kernel_rfl) ⟨h0, h0, h1, h2, rfl, h1, h2, rfl, rfl, rfl, rfl, h3, h4, h4, h5, h6, h7, h8, h8, h9, h10, h11, h12, h12, h13, h14, h15, h16, h16, h17, h18, h19, h20, h20, h21, h22, h23, h24, h24, h25, h25, h25, h25, h26, h26, h26, h26, h26, h24, h24, h0, h27, h28, h29, h30, h30, h30, h30, h0, h31, h32, h30, h33, h34, h35, h36, h30, h30, h37, trivial⟩
theorem ps_ok (cs : List AV) (h0 : (cs.length.beq 512) = true) (h1 : ((rowCut cs 0 2).length.beq 2) = true) (h2 : ((bytesOf (rowCut cs 0 2)).isSome) = true) (h3 : (!bytesEq ((bytesOf (rowCut cs 0 2)).getD []) [UInt8.ofNat 76, UInt8.ofNat 83]) = false) (h4 : ((rowCut cs 2 510).length.beq 510) = true) (h5 : ((rowCut (rowCut cs 2 510) 0 1).length.beq 1) = true) (h6 : (Nat.ble 1 (List.drop 0 (rowCut (rowCut cs 2 510) 0 1)).length) = true) (h7 : (AV.isInt IntKind.u8 ((listAt (List.drop 0 (rowCut (rowCut cs 2 510) 0 1)) 0).getD AV.undef)) = true) (h8 : ((rowCut (rowCut cs 2 510) 1 509).length.beq 509) = true) (h9 : ((rowCut (rowCut (rowCut cs 2 510) 1 509) 0 1).length.beq 1) = true) (h10 : (Nat.ble 1 (List.drop 0 (rowCut (rowCut (rowCut cs 2 510) 1 509) 0 1)).length) = true) (h11 : (AV.isInt IntKind.u8 ((listAt (List.drop 0 (rowCut (rowCut (rowCut cs 2 510) 1 509) 0 1)) 0).getD AV.undef)) = true) (h12 : ((rowCut (rowCut (rowCut cs 2 510) 1 509) 1 508).length.beq 508) = true) (h13 : (AV.plainL (rowCut (rowCut (rowCut (rowCut cs 2 510) 1 509) 1 508) 0 4)) = true) (h14 : ((rowCut (rowCut (rowCut (rowCut cs 2 510) 1 509) 1 508) 0 4).length.beq 4) = true) (h15 : (u8L (rowCut (rowCut (rowCut (rowCut cs 2 510) 1 509) 1 508) 0 4)) = true) (h16 : ((rowCut (rowCut (rowCut (rowCut cs 2 510) 1 509) 1 508) 4 504).length.beq 504) = true) (h17 : (AV.plainL (rowCut (rowCut (rowCut (rowCut (rowCut cs 2 510) 1 509) 1 508) 4 504) 0 8)) = true) (h18 : ((rowCut (rowCut (rowCut (rowCut (rowCut cs 2 510) 1 509) 1 508) 4 504) 0 8).length.beq 8) = true) (h19 : (u8L (rowCut (rowCut (rowCut (rowCut (rowCut cs 2 510) 1 509) 1 508) 4 504) 0 8)) = true) (h20 : ((rowCut (rowCut (rowCut (rowCut (rowCut cs 2 510) 1 509) 1 508) 4 504) 8 496).length.beq 496) = true) (h21 : (AV.plainL (rowCut (rowCut (rowCut (rowCut (rowCut (rowCut cs 2 510) 1 509) 1 508) 4 504) 8 496) 0 2)) = true) (h22 : ((rowCut (rowCut (rowCut (rowCut (rowCut (rowCut cs 2 510) 1 509) 1 508) 4 504) 8 496) 0 2).length.beq 2) = true) (h23 : (u8L (rowCut (rowCut (rowCut (rowCut (rowCut (rowCut cs 2 510) 1 509) 1 508) 4 504) 8 496) 0 2)) = true) (h24 : (iltB (Int.ofNat 480) (wrapA IntKind.i64 (getI 2 (rowCut (rowCut (rowCut (rowCut (rowCut (rowCut cs 2 510) 1 509) 1 508) 4 504) 8 496) 0 2)))) = false) (h25 : (iltB (AV.int IntKind.u8 ((listAt (List.drop 0 (rowCut (rowCut cs 2 510) 0 1)) 0).getD AV.undef).intOf).intOf (Int.ofNat 2)) = true) (h26 : (iltB (Int.ofNat 0) (AV.int IntKind.u8 ((listAt (List.drop 0 (rowCut (rowCut (rowCut cs 2 510) 1 509) 0 1)) 0).getD AV.undef).intOf).intOf) = true) (h27 : (AV.plainL (rowCut cs 18 14)) = true) (h28 : (u8L (rowCut cs 18 14)) = true) (h29 : ((rowCut cs 18 14).length.beq 14) = true) (h30 : (!zeroL (rowCut cs 18 14)) = false) (h31 : (ileB (Int.ofNat 0) (wrapA IntKind.i64 ((Int.ofNat 32).add (wrapA IntKind.i64 (getI 2 (rowCut (rowCut (rowCut (rowCut (rowCut (rowCut cs 2 510) 1 509) 1 508) 4 504) 8 496) 0 2)))))) = true) (h32 : ((wrapA IntKind.i64 ((Int.ofNat 32).add (wrapA IntKind.i64 (getI 2 (rowCut (rowCut (rowCut (rowCut (rowCut (rowCut cs 2 510) 1 509) 1 508) 4 504) 8 496) 0 2))))).toNat.ble 512) = true) (h33 : (AV.plainL (rowCut cs ((wrapA IntKind.i64 ((Int.ofNat 32).add (wrapA IntKind.i64 (getI 2 (rowCut (rowCut (rowCut (rowCut (rowCut (rowCut cs 2 510) 1 509) 1 508) 4 504) 8 496) 0 2))))).toNat * 1) ((512 - (wrapA IntKind.i64 ((Int.ofNat 32).add (wrapA IntKind.i64 (getI 2 (rowCut (rowCut (rowCut (rowCut (rowCut (rowCut cs 2 510) 1 509) 1 508) 4 504) 8 496) 0 2))))).toNat) * 1))) = true) (h34 : (u8L (rowCut cs ((wrapA IntKind.i64 ((Int.ofNat 32).add (wrapA IntKind.i64 (getI 2 (rowCut (rowCut (rowCut (rowCut (rowCut (rowCut cs 2 510) 1 509) 1 508) 4 504) 8 496) 0 2))))).toNat * 1) ((512 - (wrapA IntKind.i64 ((Int.ofNat 32).add (wrapA IntKind.i64 (getI 2 (rowCut (rowCut (rowCut (rowCut (rowCut (rowCut cs 2 510) 1 509) 1 508) 4 504) 8 496) 0 2))))).toNat) * 1))) = true) (h35 : ((rowCut cs ((wrapA IntKind.i64 ((Int.ofNat 32).add (wrapA IntKind.i64 (getI 2 (rowCut (rowCut (rowCut (rowCut (rowCut (rowCut cs 2 510) 1 509) 1 508) 4 504) 8 496) 0 2))))).toNat * 1) ((512 - (wrapA IntKind.i64 ((Int.ofNat 32).add (wrapA IntKind.i64 (getI 2 (rowCut (rowCut (rowCut (rowCut (rowCut (rowCut cs 2 510) 1 509) 1 508) 4 504) 8 496) 0 2))))).toNat) * 1)).length.beq (512 - (wrapA IntKind.i64 ((Int.ofNat 32).add (wrapA IntKind.i64 (getI 2 (rowCut (rowCut (rowCut (rowCut (rowCut (rowCut cs 2 510) 1 509) 1 508) 4 504) 8 496) 0 2))))).toNat)) = true) (h36 : ((512 - (wrapA IntKind.i64 ((Int.ofNat 32).add (wrapA IntKind.i64 (getI 2 (rowCut (rowCut (rowCut (rowCut (rowCut (rowCut cs 2 510) 1 509) 1 508) 4 504) 8 496) 0 2))))).toNat).ble 1000000000000) = true) (h37 : (!zeroL (rowCut cs ((wrapA IntKind.i64 ((Int.ofNat 32).add (wrapA IntKind.i64 (getI 2 (rowCut (rowCut (rowCut (rowCut (rowCut (rowCut cs 2 510) 1 509) 1 508) 4 504) 8 496) 0 2))))).toNat * 1) ((512 - (wrapA IntKind.i64 ((Int.ofNat 32).add (wrapA IntKind.i64 (getI 2 (rowCut (rowCut (rowCut (rowCut (rowCut (rowCut cs 2 510) 1 509) 1 508) 4 504) 8 496) 0 2))))).toNat) * 1))) = false) (h38 : (Nat.ble 32 (wrapA IntKind.i64 ((Int.ofNat 32).add (wrapA IntKind.i64 (getI 2 (rowCut (rowCut (rowCut (rowCut (rowCut (rowCut cs 2 510) 1 509) 1 508) 4 504) 8 496) 0 2))))).toNat) = true) (h39 : (AV.plainL (rowCut cs 32 (((wrapA IntKind.i64 ((Int.ofNat 32).add (wrapA IntKind.i64 (getI 2 (rowCut (rowCut (rowCut (rowCut (rowCut (rowCut cs 2 510) 1 509) 1 508) 4 504) 8 496) 0 2))))).toNat - 32) * 1))) = true) (h40 : ((rowCut cs 32 (((wrapA IntKind.i64 ((Int.ofNat 32).add (wrapA IntKind.i64 (getI 2 (rowCut (rowCut (rowCut (rowCut (rowCut (rowCut cs 2 510) 1 509) 1 508) 4 504) 8 496) 0 2))))).toNat - 32) * 1)).length.beq ((wrapA IntKind.i64 ((Int.ofNat 32).add (wrapA IntKind.i64 (getI 2 (rowCut (rowCut (rowCut (rowCut (rowCut (rowCut cs 2 510) 1 509) 1 508) 4 504) 8 496) 0 2))))).toNat - 32)) = true) (h41 : (u8L (rowCut cs 32 (((wrapA IntKind.i64 ((Int.ofNat 32).add (wrapA IntKind.i64 (getI 2 (rowCut (rowCut (rowCut (rowCut (rowCut (rowCut cs 2 510) 1 509) 1 508) 4 504) 8 496) 0 2))))).toNat - 32) * 1))) = true) (h42 : (((wrapA IntKind.i64 ((Int.ofNat 32).add (wrapA IntKind.i64 (getI 2 (rowCut (rowCut (rowCut (rowCut (rowCut (rowCut cs 2 510) 1 509) 1 508) 4 504) 8 496) 0 2))))).toNat - 32).ble 1099511627776) = true) :
    ∃ h', aCall C7a 60 (Tgt.fn 53) [AV.fsl false 512 cs] H0 = some (AV.tuple [AV.agg [AV.int IntKind.u8 ((listAt (List.drop 0 (rowCut (rowCut cs 2 510) 0 1)) 0).getD AV.undef).intOf, AV.int IntKind.u8 ((listAt (List.drop 0 (rowCut (rowCut (rowCut cs 2 510) 1 509) 0 1)) 0).getD AV.undef).intOf, AV.int IntKind.u32 (getI 4 (rowCut (rowCut (rowCut (rowCut cs 2 510) 1 509) 1 508) 0 4)), AV.int IntKind.u64 (getI 8 (rowCut (rowCut (rowCut (rowCut (rowCut cs 2 510) 1 509) 1 508) 4 504) 0 8)), AV.slice (some (4, 0)) ((wrapA IntKind.i64 ((Int.ofNat 32).add (wrapA IntKind.i64 (getI 2 (rowCut (rowCut (rowCut (rowCut (rowCut (rowCut cs 2 510) 1 509) 1 508) 4 504) 8 496) 0 2))))).toNat - 32) none], AV.int IntKind.i64 (Int.ofNat 0)], h') ∧ [4].map h'.get = [Blk.cells true 5 ((wrapA IntKind.i64 ((Int.ofNat 32).add (wrapA IntKind.i64 (getI 2 (rowCut (rowCut (rowCut (rowCut (rowCut (rowCut cs 2 510) 1 509) 1 508) 4 504) 8 496) 0 2))))).toNat - 32) (rowCut cs 32 (((wrapA IntKind.i64 ((Int.ofNat 32).add (wrapA IntKind.i64 (getI 2 (rowCut (rowCut (rowCut (rowCut (rowCut (rowCut cs 2 510) 1 509) 1 508) 4 504) 8 496) 0 2))))).toNat - 32) * 1))] :=
  call_runT (q := (oc 8 (.y :: (oc 5 (.y :: (oc 6 (.y :: (.y :: (oc 4 (.y :: (oc 10 (.y :: (.y :: (.y :: (oc 1 (.y :: (oc 1 (.y :: (oc 1 (.y :: (.z :: (oc 3 (.y :: (oc 5 (.y :: (oc 7 (.y :: (.y :: (.y :: (oc 3 (.y :: (oc 5 (.y :: (oc 7 (.y :: (.y :: (.y :: (oc 4 (.y :: (oc 5 (.y :: (oc 5 (.y :: (.y :: (.y :: (oc 4 (.y :: (oc 5 (.y :: (oc 5 (.y :: (.y :: (.y :: (oc 15 (.y :: (oc 5 (.y :: (oc 5 (.y :: (.y :: (.y :: (.z :: (oc 1 (.z :: (oc 3 (.y :: (.y :: (oc 3 (.y :: (.y :: (.y :: (.y :: (oc 3 (.y :: (.y :: (.y :: (.z :: (.z :: (oc 2 (.y :: (oc 5 (.y :: (.y :: (.y :: (oc 3 (.z :: (.z :: (.z :: (.z :: (.y :: (.y :: (.y :: (.z :: (.y :: (.y :: (.y :: (.y :: (.z :: (.z :: (.z :: (.y :: (.y :: (.y :: (oc 1 (.y :: (.y :: (.y :: (.y :: (.y :: (oc 8 [])))))))))))))))))))))))))))))))))))))))))))))))))))))))))))))))))))))))))))))))))))))))))))))))))))))))))))))) (c := (Cnd.tst _ true :: Cnd.tst _ true :: Cnd.tst _ true :: Cnd.tst _ true :: Cnd.same (AV.fsl false 512 cs) (AV.fsl false 512 cs) :: Cnd.tst _ true :: Cnd.tst _ true :: Cnd.same (AV.str ((bytesOf (rowCut cs 0 2)).getD [])) (AV.str ((bytesOf (rowCut cs 0 2)).getD [])) :: Cnd.same (AV.bool (bytesEq ((bytesOf (rowCut cs 0 2)).getD []) [UInt8.ofNat 76, UInt8.ofNat 83])) (AV.bool (bytesEq ((bytesOf (rowCut cs 0 2)).getD []) [UInt8.ofNat 76, UInt8.ofNat 83])) :: Cnd.same (AV.bool (bytesEq ((bytesOf (rowCut cs 0 2)).getD []) [UInt8.ofNat 76, UInt8.ofNat 83])) (AV.bool (bytesEq ((bytesOf (rowCut cs 0 2)).getD []) [UInt8.ofNat 76, UInt8.ofNat 83])) :: Cnd.same (AV.bool (bytesEq ((bytesOf (rowCut cs 0 2)).getD []) [UInt8.ofNat 76, UInt8.ofNat 83])) (AV.bool (bytesEq ((bytesOf (rowCut cs 0 2)).getD []) [UInt8.ofNat 76, UInt8.ofNat 83])) :: Cnd.tst _ false :: Cnd.tst _ true :: Cnd.tst _ true :: Cnd.tst _ true :: Cnd.tst _ true :: Cnd.tst _ true :: Cnd.tst _ true :: Cnd.tst _ true :: Cnd.tst _ true :: Cnd.tst _ true :: Cnd.tst _ true :: Cnd.tst _ true :: Cnd.tst _ true :: Cnd.tst _ true :: Cnd.tst _ true :: Cnd.tst _ true :: Cnd.tst _ true :: Cnd.tst _ true :: Cnd.tst _ true :: Cnd.tst _ true :: Cnd.tst _ true :: Cnd.tst _ true :: Cnd.tst _ true :: Cnd.tst _ true :: Cnd.tst _ true :: Cnd.tst _ true :: Cnd.tst _ false :: Cnd.tst _ false :: Cnd.tst _ true :: Cnd.tst _ true :: Cnd.tst _ true :: Cnd.tst _ true :: Cnd.tst _ true :: Cnd.tst _ true :: Cnd.tst _ true :: Cnd.tst _ true :: Cnd.tst _ true :: Cnd.tst _ false :: Cnd.tst _ false :: Cnd.tst _ true :: Cnd.tst _ true :: Cnd.tst _ true :: Cnd.tst _ true :: Cnd.tst _ false :: Cnd.tst _ false :: Cnd.tst _ false :: Cnd.tst _ false :: Cnd.tst _ true :: Cnd.tst _ true :: Cnd.tst _ true :: Cnd.tst _ false :: Cnd.tst _ true :: Cnd.tst _ true :: Cnd.tst _ true :: Cnd.tst _ true :: Cnd.tst _ false :: Cnd.tst _ false :: Cnd.tst _ false :: Cnd.tst _ true :: Cnd.tst _ true :: Cnd.tst _ true :: Cnd.tst _ true :: Cnd.tst _ true :: Cnd.tst _ true :: Cnd.tst _ true :: Cnd.tst _ true :: [])) (by kernel_rfl) ⟨h0, h0, h1, h2, rfl, h1, h2, rfl, rfl, rfl, rfl, h3, h4, h4, h5, h6, h7, h8, h8, h9, h10, h11, h12, h12, h13, h14, h15, h16, h16, h17, h18, h19, h20, h20, h21, h22, h23, h24, h24, h25, h25, h25, h25, h26, h26, h26, h26, h26, h24, h24, h0, h27, h28, h29, h30, h30, h30, h30, h0, h31, h32, h30, h33, h34, h35, h36, h30, h30, h37, h0, h31, h32, h38, h39, h40, h41, h42, trivial⟩
theorem ps_len (a : Bool) (l : Nat) (cs : List AV) (h0 : (ieqB (Int.ofNat l) (Int.ofNat 512)) = false) :
    ∃ h', aCall C7a 60 (Tgt.fn 53) [AV.fsl a l cs] H0 = some (AV.tuple [AV.agg [AV.int IntKind.u8 (Int.ofNat 0), AV.int IntKind.u8 (Int.ofNat 0), AV.int IntKind.u32 (Int.ofNat 0), AV.int IntKind.u64 (Int.ofNat 0), AV.slice none 0 (some 0)], AV.int IntKind.i64 (Int.ofNat 3)], h') ∧ [].map h'.get = [] :=
  call_runT (q := (oc 2 (.z :: (.z :: (.z :: (.z :: (.z :: (.z :: (oc 2 (.y :: (.y :: (.y :: (.y :: (.z :: (.z :: (.z :: (.z :: (.z :: (.z :: (oc 8 [])))))))))))))))))))) (c := (Cnd.tst _ false :: Cnd.tst _ false :: Cnd.tst _ false :: Cnd.tst _ false :: Cnd.tst _ false :: Cnd.tst _ false :: Cnd.same (AV.fsl a l cs) (AV.fsl a l cs) :: Cnd.same (AV.int IntKind.i64 (Int.ofNat l)) (AV.int IntKind.i64 (Int.ofNat l)) :: Cnd.same (AV.bool (ieqB (Int.ofNat l) (Int.ofNat 512))) (AV.bool (ieqB (Int.ofNat l) (Int.ofNat 512))) :: Cnd.same (AV.bool (ieqB (Int.ofNat l) (Int.ofNat 512))) (AV.bool (ieqB (Int.ofNat l) (Int.ofNat 512))) :: Cnd.tst _ false :: Cnd.tst _ false :: Cnd.tst _ false :: Cnd.tst _ false :: Cnd.tst _ false :: Cnd.tst _ false :: [])) (by kernel_rfl) ⟨h0, h0, h0, h0, h0, h0, rfl, rfl, rfl, rfl, h0, h0, h0, h0, h0, h0, trivial⟩
def parseSy : RSum := RSum.nb true fun us => match us with
  | [.fsl false l cs] => some ([u8L cs, Nat.beq cs.length l, kept (isSB (bytesL cs))],
    fun n => .tuple [.agg [.int .u8 (kept (byteI (bytesL cs) 2)), .int .u8 (kept (byteI (bytesL cs) 3)), .int .u32 (kept ((numB (bytesL cs) 4 4 : Nat) : Int)), .int .u64 (kept ((numB (bytesL cs) 8 8 : Nat) : Int)), .slice (some (n, 0)) (kept (lenS (bytesL cs))) none], .int .i64 (Int.ofNat 0)],
    [.cells true 5 (kept (lenS (bytesL cs))) (kept (ofBytes (((bytesL cs).drop 32).take (lenS (bytesL cs)))))])
  | _ => none
def parseSn : RSum := RSum.pl true fun us => match us with
  | [.fsl a l cs] => some ([u8L cs, Nat.beq cs.length l, !(a && Nat.beq l 512), kept (!isSB (bytesL cs))], .tuple [.agg [.int .u8 (Int.ofNat 0), .int .u8 (Int.ofNat 0), .int .u32 (Int.ofNat 0), .int .u64 (Int.ofNat 0), .slice none 0 (some 0)], .int .i64 (Int.ofNat 3)])
  | _ => none
set_option maxHeartbeats 2000000 in
theorem parseSy_ok : RSum.Sound Try.prog tys 53 parseSy := by
  refine RSum.soundT (cx_goes _ _) all7a (RSum.nb_ok fun us q v bs hm hc => ?_)
  split at hm
  · rename_i l cs
    injection hm with hm; injection hm with e1 hm; injection hm with e2 e3; subst e1; subst e2; subst e3
    simp only [allTrue_cons] at hc
    obtain ⟨c1, c2, c3, _⟩ := hc
    obtain ⟨b, rfl⟩ := u8L_iff.1 c1
    have c2 := eq_of_beq' c2
    rw [ofBytes_length] at c2
    subst c2
    rw [kept_eq, bytesL_ofBytes] at c3
    unfold isSB at c3
    simp only [Bool.and_eq_true, decide_eq_true_eq, rightS_iff] at c3
    obtain ⟨⟨⟨⟨p1, p2⟩, ⟨p3, p4⟩, p5⟩, p6⟩, p7⟩ := c3
    have C := cutS p1
    have D := cutN p1 p5
    have p2 := eq_of_beq p2
    simp only [kept_eq, bytesL_ofBytes]
    rw [p1]
    have lt2 : iltB ((b.getD 2 0).toNat : Int) (Int.ofNat 2) = true := by rw [iltB_eq]; exact decide_eq_true p3
    have gt0 : iltB (Int.ofNat 0) ((b.getD 3 0).toNat : Int) = true := by rw [iltB_eq]; exact decide_eq_true p4
    have le480 : iltB (Int.ofNat 480) ((lenS b : Nat) : Int) = false := by rw [iltB_eq]; exact decide_eq_false (by show ¬ ((480 : Nat) : Int) < _; omega)
    have D1 := D.nI; have D2 := D.w32; have D3 := D.t32; have D4 := D.c32; have D5 := D.cr; have D6 := D.ln; have D7 := D.l32; have D8 := D.lr
    have G4 : getI 4 (ofBytes ((b.drop 4).take 4)) = ((numB b 4 4 : Nat) : Int) := by
      rw [getI_ofBytes, C.k4, if_pos (Nat.le_refl _), List.take_of_length_le (Nat.le_of_eq C.k4)]; rfl
    have G8 : getI 8 (ofBytes ((b.drop 8).take 8)) = ((numB b 8 8 : Nat) : Int) := by
      rw [getI_ofBytes, C.k8, if_pos (Nat.le_refl _), List.take_of_length_le (Nat.le_of_eq C.k8)]; rfl
    refine ⟨fun k hk => ?_, ?_⟩
    · have : k = .cells true 5 (lenS b) (ofBytes ((b.drop 32).take (lenS b))) := by simpa using hk
      subst this
      simp only [Blk.plainOwn, ofBytes_plain, Bool.and_self]
    have key := ps_ok (ofBytes b)
    iterate 43
      replace key := key (by
        (try simp only [C.s0, C.s1, C.s2, C.s3, C.s4, C.s5, C.t4, C.t8, C.t2, C.s6, C.s7, C.z1, zero_ofS, D1, D2, D3, D4, D5, D6, p2, p6, p7])
        first
          | done
          | rfl
          | exact lt2
          | exact gt0
          | exact le480
          | exact ofBytes_plainL _
          | exact u8L_ofBytes _
          | (simp [nbeq, nble, iltB_eq, ileB_eq, ieqB_eq, u8L_ofBytes, bytesL_ofBytes, bytesOf_ofBytes, ofBytes_plainL, ofBytes_length, AV.intOf, AV.isInt, bytesEq_eq, C.l0, C.l2, C.l3, C.l4, C.l8, C.l16, C.k4, C.k8, C.k2, C.k14, p1, D7, D8]; done)
          | (simp [nbeq, nble, iltB_eq, ileB_eq, ieqB_eq, u8L_ofBytes, bytesL_ofBytes, bytesOf_ofBytes, ofBytes_plainL, ofBytes_length, AV.intOf, AV.isInt, bytesEq_eq, C.l0, C.l2, C.l3, C.l4, C.l8, C.l16, C.k4, C.k8, C.k2, C.k14, p1, D7, D8]; omega))
    obtain ⟨h', h, hb⟩ := key

    simp only [C.s0, C.s1, C.s2, C.s3, C.s4, C.s5, C.t4, C.t8, C.t2, C.s6, C.s7, C.z1, D1, D2, D3, D4, D5, D6, G4, G8] at h hb
    exact ⟨60, h', [4], _, h, hb, sel_one 4, by simp [AV.ok, AV.okL], fun n ρ hρ => by
      have := hρ 0 4 rfl
      simp only [AV.ren, AV.renL, Option.map_some, this, Nat.add_zero]
      exact AV.Le.refl _⟩
  · cases hm
set_option maxHeartbeats 2000000 in
theorem parseSn_ok : RSum.Sound Try.prog tys 53 parseSn := by
  refine RSum.soundT (cx_goes _ _) all7a (RSum.pl_ok fun us q v hm hc => ?_)
  split at hm
  · rename_i a l cs
    injection hm with hm; injection hm with e1 e2; subst e1; subst e2
    simp only [allTrue_cons] at hc
    obtain ⟨c1, c2, ca, c3, _⟩ := hc
    obtain ⟨b, rfl⟩ := u8L_iff.1 c1
    have c2 := eq_of_beq' c2
    rw [ofBytes_length] at c2
    subst c2
    rw [kept_eq, bytesL_ofBytes, Bool.not_eq_true'] at c3
    by_cases p1 : b.length = 512
    case neg =>
      obtain ⟨h', h, _⟩ := ps_len a b.length (ofBytes b) (by rw [ieqB_eq, beq_eq_false_iff_ne]; intro e; exact p1 (Int.ofNat.inj e))
      exact ⟨rfl, 60, h', h⟩
    have C := cutS p1
    rw [p1] at ca ⊢
    have ha : a = false := by
      cases a with
      | false => rfl
      | true => cases ca
    subst ha
    by_cases p2 : b.take 2 = [UInt8.ofNat 76, UInt8.ofNat 83]
    case neg =>
      have key := ps_sign (ofBytes b)
      iterate 4
        replace key := key (by
          (try simp only [C.s0])
          first
            | done
            | rfl
            | exact lt2
            | exact gt0
            | exact le480
            | exact ofBytes_plainL _
            | exact u8L_ofBytes _
            | (simp [nbeq, nble, iltB_eq, ileB_eq, ieqB_eq, u8L_ofBytes, bytesL_ofBytes, bytesOf_ofBytes, ofBytes_plainL, ofBytes_length, AV.intOf, AV.isInt, bytesEq_eq, C.l0, C.l2, C.l3, C.l4, C.l8, C.l16, C.k4, C.k8, C.k2, C.k14, p1, p2]; done)
            | (simp [nbeq, nble, iltB_eq, ileB_eq, ieqB_eq, u8L_ofBytes, bytesL_ofBytes, bytesOf_ofBytes, ofBytes_plainL, ofBytes_length, AV.intOf, AV.isInt, bytesEq_eq, C.l0, C.l2, C.l3, C.l4, C.l8, C.l16, C.k4, C.k8, C.k2, C.k14, p1, p2]; omega))
      obtain ⟨h', h, hb⟩ := key
      exact ⟨rfl, 60, h', h⟩
    obtain ⟨D1, D0⟩ := cutNI p1
    by_cases p5 : lenS b ≤ 480
    case neg =>
      have le480 : iltB (Int.ofNat 480) ((lenS b : Nat) : Int) = true := by rw [iltB_eq]; exact decide_eq_true (by show ((480 : Nat) : Int) < _; omega)
      have key := ps_long (ofBytes b)
      iterate 25
        replace key := key (by
          (try simp only [C.s0, C.s1, C.s2, C.s3, C.s4, C.s5, C.t4, C.t8, C.t2, C.s6, C.s7, C.z1, zero_ofS, D1, p2])
          first
            | done
            | rfl
            | exact lt2
            | exact gt0
            | exact le480
            | exact ofBytes_plainL _
            | exact u8L_ofBytes _
            | (simp [nbeq, nble, iltB_eq, ileB_eq, ieqB_eq, u8L_ofBytes, bytesL_ofBytes, bytesOf_ofBytes, ofBytes_plainL, ofBytes_length, AV.intOf, AV.isInt, bytesEq_eq, C.l0, C.l2, C.l3, C.l4, C.l8, C.l16, C.k4, C.k8, C.k2, C.k14, p1]; done)
            | (simp [nbeq, nble, iltB_eq, ileB_eq, ieqB_eq, u8L_ofBytes, bytesL_ofBytes, bytesOf_ofBytes, ofBytes_plainL, ofBytes_length, AV.intOf, AV.isInt, bytesEq_eq, C.l0, C.l2, C.l3, C.l4, C.l8, C.l16, C.k4, C.k8, C.k2, C.k14, p1]; omega))
      obtain ⟨h', h, hb⟩ := key
      exact ⟨rfl, 60, h', h⟩
    have le480 : iltB (Int.ofNat 480) ((lenS b : Nat) : Int) = false := by rw [iltB_eq]; exact decide_eq_false (by show ¬ ((480 : Nat) : Int) < _; omega)
    have D := cutN p1 p5
    have D2 := D.w32; have D3 := D.t32; have D4 := D.c32; have D5 := D.cr; have D6 := D.ln; have D7 := D.l32; have D8 := D.lr
    by_cases p3 : ((b.getD 2 0).toNat : Int) < 2
    case neg =>
      have lt2 : iltB ((b.getD 2 0).toNat : Int) (Int.ofNat 2) = false := by rw [iltB_eq]; exact decide_eq_false p3
      have key := ps_mode (ofBytes b)
      iterate 26
        replace key := key (by
          (try simp only [C.s0, C.s1, C.s2, C.s3, C.s4, C.s5, C.t4, C.t8, C.t2, C.s6, C.s7, C.z1, zero_ofS, D1, D2, D3, D4, D5, D6, p2])
          first
            | done
            | rfl
            | exact lt2
            | exact gt0
            | exact le480
            | exact ofBytes_plainL _
            | exact u8L_ofBytes _
            | (simp [nbeq, nble, iltB_eq, ileB_eq, ieqB_eq, u8L_ofBytes, bytesL_ofBytes, bytesOf_ofBytes, ofBytes_plainL, ofBytes_length, AV.intOf, AV.isInt, bytesEq_eq, C.l0, C.l2, C.l3, C.l4, C.l8, C.l16, C.k4, C.k8, C.k2, C.k14, p1]; done)
            | (simp [nbeq, nble, iltB_eq, ileB_eq, ieqB_eq, u8L_ofBytes, bytesL_ofBytes, bytesOf_ofBytes, ofBytes_plainL, ofBytes_length, AV.intOf, AV.isInt, bytesEq_eq, C.l0, C.l2, C.l3, C.l4, C.l8, C.l16, C.k4, C.k8, C.k2, C.k14, p1]; omega))
      obtain ⟨h', h, hb⟩ := key
      exact ⟨rfl, 60, h', h⟩
    have lt2 : iltB ((b.getD 2 0).toNat : Int) (Int.ofNat 2) = true := by rw [iltB_eq]; exact decide_eq_true p3
    by_cases p4 : (0 : Int) < ((b.getD 3 0).toNat : Int)
    case neg =>
      have gt0 : iltB (Int.ofNat 0) ((b.getD 3 0).toNat : Int) = false := by rw [iltB_eq]; exact decide_eq_false p4
      have key := ps_place (ofBytes b)
      iterate 27
        replace key := key (by
          (try simp only [C.s0, C.s1, C.s2, C.s3, C.s4, C.s5, C.t4, C.t8, C.t2, C.s6, C.s7, C.z1, zero_ofS, D1, D2, D3, D4, D5, D6, p2])
          first
            | done
            | rfl
            | exact lt2
            | exact gt0
            | exact le480
            | exact ofBytes_plainL _
            | exact u8L_ofBytes _
            | (simp [nbeq, nble, iltB_eq, ileB_eq, ieqB_eq, u8L_ofBytes, bytesL_ofBytes, bytesOf_ofBytes, ofBytes_plainL, ofBytes_length, AV.intOf, AV.isInt, bytesEq_eq, C.l0, C.l2, C.l3, C.l4, C.l8, C.l16, C.k4, C.k8, C.k2, C.k14, p1]; done)
            | (simp [nbeq, nble, iltB_eq, ileB_eq, ieqB_eq, u8L_ofBytes, bytesL_ofBytes, bytesOf_ofBytes, ofBytes_plainL, ofBytes_length, AV.intOf, AV.isInt, bytesEq_eq, C.l0, C.l2, C.l3, C.l4, C.l8, C.l16, C.k4, C.k8, C.k2, C.k14, p1]; omega))
      obtain ⟨h', h, hb⟩ := key
      exact ⟨rfl, 60, h', h⟩
    have gt0 : iltB (Int.ofNat 0) ((b.getD 3 0).toNat : Int) = true := by rw [iltB_eq]; exact decide_eq_true p4
    cases p6 : (((b.drop 18).take 14).all fun x => x == 0) with
    | false =>
      have key := ps_z1 (ofBytes b)
      iterate 31
        replace key := key (by
          (try simp only [C.s0, C.s1, C.s2, C.s3, C.s4, C.s5, C.t4, C.t8, C.t2, C.s6, C.s7, C.z1, zero_ofS, D1, D2, D3, D4, D5, D6, p2, p6])
          first
            | done
            | rfl
            | exact lt2
            | exact gt0
            | exact le480
            | exact ofBytes_plainL _
            | exact u8L_ofBytes _
            | (simp [nbeq, nble, iltB_eq, ileB_eq, ieqB_eq, u8L_ofBytes, bytesL_ofBytes, bytesOf_ofBytes, ofBytes_plainL, ofBytes_length, AV.intOf, AV.isInt, bytesEq_eq, C.l0, C.l2, C.l3, C.l4, C.l8, C.l16, C.k4, C.k8, C.k2, C.k14, p1]; done)
            | (simp [nbeq, nble, iltB_eq, ileB_eq, ieqB_eq, u8L_ofBytes, bytesL_ofBytes, bytesOf_ofBytes, ofBytes_plainL, ofBytes_length, AV.intOf, AV.isInt, bytesEq_eq, C.l0, C.l2, C.l3, C.l4, C.l8, C.l16, C.k4, C.k8, C.k2, C.k14, p1]; omega))
      obtain ⟨h', h, hb⟩ := key
      exact ⟨rfl, 60, h', h⟩
    | true =>
    have p7 : ((b.drop (32 + lenS b)).all fun x => x == 0) = false := by
      cases hz : ((b.drop (32 + lenS b)).all fun x => x == 0) with
      | false => rfl
      | true =>
        exfalso
        have : isSB b = true := by
          unfold isSB
          rw [hz, p2, p6]
          simp only [Bool.and_eq_true, decide_eq_true_eq, rightS_iff]
          exact ⟨⟨⟨⟨p1, rfl⟩, ⟨p3, p4⟩, p5⟩, trivial⟩, trivial⟩
        rw [this] at c3; cases c3
    have key := ps_z2 (ofBytes b)
    iterate 38
      replace key := key (by
        (try simp only [C.s0, C.s1, C.s2, C.s3, C.s4, C.s5, C.t4, C.t8, C.t2, C.s6, C.s7, C.z1, zero_ofS, D1, D2, D3, D4, D5, D6, p2, p6, p7])
        first
          | done
          | rfl
          | exact lt2
          | exact gt0
          | exact le480
          | exact ofBytes_plainL _
          | exact u8L_ofBytes _
          | (simp [nbeq, nble, iltB_eq, ileB_eq, ieqB_eq, u8L_ofBytes, bytesL_ofBytes, bytesOf_ofBytes, ofBytes_plainL, ofBytes_length, AV.intOf, AV.isInt, bytesEq_eq, C.l0, C.l2, C.l3, C.l4, C.l8, C.l16, C.k4, C.k8, C.k2, C.k14, p1, D7, D8]; done)
          | (simp [nbeq, nble, iltB_eq, ileB_eq, ieqB_eq, u8L_ofBytes, bytesL_ofBytes, bytesOf_ofBytes, ofBytes_plainL, ofBytes_length, AV.intOf, AV.isInt, bytesEq_eq, C.l0, C.l2, C.l3, C.l4, C.l8, C.l16, C.k4, C.k8, C.k2, C.k14, p1, D7, D8]; omega))
    obtain ⟨h', h, hb⟩ := key
    exact ⟨rfl, 60, h', h⟩
  · cases hm
end Go.Proofs.Ytecncappdnhbaaa
end
end
