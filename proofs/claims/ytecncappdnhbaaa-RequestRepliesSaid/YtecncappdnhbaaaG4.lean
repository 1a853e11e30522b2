/- Texts of the abstract machine and of the laws, merged. -/
import Derived.Test.YtecncappdnhbaaaGT
import Derived.Test.YtecncappdnhbaaaG3
/- The seat's machine, with what is known. -/
section
set_option autoImplicit false
set_option linter.unusedVariables false
set_option maxRecDepth 100000
noncomputable section
namespace Go.Proofs.Ytecncappdnhbaaa
open Go.Ab
abbrev tys := T.get none atys
abbrev fns := T.get none afns
/-- nothing is known. -/
abbrev C0 := mkCx tys fns [] []
theorem all0 : SumAll Try.prog C0 := sums_all (fun _ h => by cases h) (fun _ h => by cases h)
end Go.Proofs.Ytecncappdnhbaaa
end
end

/- Words that are turned: plain laws. -/
section
section
set_option autoImplicit false
set_option linter.unusedVariables false
set_option linter.unusedSimpArgs false
namespace Go.Ab




end Go.Ab
end
end

/- Bits of words: plain laws. -/
section
section
set_option autoImplicit false
set_option linter.unusedVariables false
set_option linter.unusedSimpArgs false
namespace Go.Ab



/-! ### Words as natural numbers -/
theorem wrapA_nat (k : IntKind) (m : Nat) (h : m < topK k) : wrapA k (m : Int) = m := by rw [wrapA_eq]; exact wrap_small k m h
theorem nat_of {x : Int} (h : ileB 0 x = true) : ∃ y : Nat, x = y := by
  rw [ileB_eq] at h
  exact ⟨x.toNat, by have := of_decide_eq_true h; omega⟩
theorem lt_of {x y : Nat} (h : iltB (x : Int) (y : Int) = true) : x < y := by
  rw [iltB_eq] at h
  have := of_decide_eq_true h; omega
end Go.Ab
end
end

/- The bits of words: what the functions that count them do. -/
section
set_option autoImplicit false
set_option linter.unusedVariables false
set_option linter.unusedSimpArgs false
set_option maxRecDepth 100000
noncomputable section
namespace Go.Proofs.Ytecncappdnhbaaa
open Go Go.Ab
end Go.Proofs.Ytecncappdnhbaaa
namespace Go.Ab.M
end Go.Ab.M
namespace Go.Proofs.Ytecncappdnhbaaa
open Go.Ab.M Go.Ab Go
end Go.Proofs.Ytecncappdnhbaaa
end
end

/- Words: rows of the functions that count, turn, tell a bit. -/
section
set_option autoImplicit false
set_option linter.unusedVariables false
set_option linter.unusedSimpArgs false
set_option maxRecDepth 100000
noncomputable section
namespace Go.Ab.M
end Go.Ab.M
namespace Go.Proofs.Ytecncappdnhbaaa
open Go.Ab.M Go.Ab Go
/-- how many bits a word has; the chapter's example. -/
abbrev F01 : FTab := [(63, RSum.const (.int .i64 (Int.ofNat 8))), (64, RSum.const (.int .i64 (Int.ofNat 16))), (65, RSum.const (.int .i64 (Int.ofNat 32))), (66, RSum.const (.int .i64 (Int.ofNat 64))), (15, RSum.const (.bool true))]
abbrev C01 := mkCx tys fns F01 []
theorem bits_u8 :
    ∃ h', aCall C0 100 (Tgt.fn 63) [] H0 = some (AV.int IntKind.i64 (Int.ofNat 8), h') ∧ [].map h'.get = [] :=
  call_run (q := (cs 17 [])) (c := []) (by kernel_rfl) trivial
theorem bits_u16 :
    ∃ h', aCall C0 100 (Tgt.fn 64) [] H0 = some (AV.int IntKind.i64 (Int.ofNat 16), h') ∧ [].map h'.get = [] :=
  call_run (q := (cs 33 [])) (c := []) (by kernel_rfl) trivial
theorem bits_u32 :
    ∃ h', aCall C0 100 (Tgt.fn 65) [] H0 = some (AV.int IntKind.i64 (Int.ofNat 32), h') ∧ [].map h'.get = [] :=
  call_run (q := (cs 65 [])) (c := []) (by kernel_rfl) trivial
theorem bits_u64 :
    ∃ h', aCall C0 100 (Tgt.fn 66) [] H0 = some (AV.int IntKind.i64 (Int.ofNat 64), h') ∧ [].map h'.get = [] :=
  call_run (q := (cs 129 [])) (c := []) (by kernel_rfl) trivial
theorem lives01 :
    ∃ h', aCall C0 100 (Tgt.fn 15) [] H0 = some (AV.bool true, h') ∧ [].map h'.get = [] :=
  call_run (q := (cs 80 [])) (c := []) (by kernel_rfl) trivial
theorem f01_ok : ∀ p ∈ F01, RSum.Sound Try.prog tys p.1 p.2 := by
  intro p h
  simp only [F01, List.mem_cons, List.not_mem_nil, or_false] at h
  rcases h with rfl | rfl | rfl | rfl | rfl
  · exact RSum.sound (cx_goes _ _) all0 (RSum.const_ok rfl (let ⟨h', h, _⟩ := bits_u8; ⟨h', h⟩))
  · exact RSum.sound (cx_goes _ _) all0 (RSum.const_ok rfl (let ⟨h', h, _⟩ := bits_u16; ⟨h', h⟩))
  · exact RSum.sound (cx_goes _ _) all0 (RSum.const_ok rfl (let ⟨h', h, _⟩ := bits_u32; ⟨h', h⟩))
  · exact RSum.sound (cx_goes _ _) all0 (RSum.const_ok rfl (let ⟨h', h, _⟩ := bits_u64; ⟨h', h⟩))
  · exact RSum.sound (cx_goes _ _) all0 (RSum.const_ok rfl (let ⟨h', h, _⟩ := lives01; ⟨h', h⟩))
theorem all01 : SumAll Try.prog C01 := sums_all f01_ok (fun _ h => by cases h)
end Go.Proofs.Ytecncappdnhbaaa
end
end

/- Rows of bytes: plain laws. -/
section
set_option autoImplicit false
set_option linter.unusedVariables false
set_option linter.unusedSimpArgs false
noncomputable section
namespace Go.Ab
namespace M
/-- a value that a run does not look into. -/
def kept {α : Type} (a : α) : α := Classical.choose (⟨a, rfl⟩ : ∃ x, x = a)
theorem kept_eq {α : Type} (a : α) : kept a = a := Classical.choose_spec (⟨a, rfl⟩ : ∃ x, x = a)
/-- is a cell a byte? -/
def u8 : AV → Bool
  | .int k n => decide (k = .u8) && ileB 0 n && iltB n 256
  | _ => false
def u8L (l : List AV) : Bool := List.rec (motive := fun _ => Bool) true (fun v _ r => cb (u8 v) r false) l
def byte (v : AV) : UInt8 := UInt8.ofNat v.intOf.toNat
def bytesL (l : List AV) : List UInt8 := l.map byte
/-- a number as so many bytes, the highest first. -/
def putB (w x : Nat) : List UInt8 := (List.range w).map fun i => UInt8.ofNat (x / 256 ^ (w - 1 - i))
end M
open M
theorem u8_iff {v : AV} : M.u8 v = true ↔ ∃ b : UInt8, v = .int .u8 b.toNat := by
  constructor
  · intro h
    cases v <;> simp only [M.u8] at h <;> try (cases h; done)
    rename_i k n
    simp only [Bool.and_eq_true, decide_eq_true_eq, ileB_eq, iltB_eq] at h
    obtain ⟨⟨rfl, h1⟩, h2⟩ := h
    refine ⟨UInt8.ofNat n.toNat, ?_⟩
    congr 1
    have : (UInt8.ofNat n.toNat).toNat = n.toNat % 256 := by simp
    rw [this]; omega
  · rintro ⟨b, rfl⟩
    have := b.toNat_lt
    simp only [M.u8, Bool.and_eq_true, decide_eq_true_eq, ileB_eq, iltB_eq]
    refine ⟨⟨trivial, by omega⟩, by omega⟩
theorem u8L_cons (v : AV) (l : List AV) : u8L (v :: l) = (M.u8 v && u8L l) := by
  show cb (M.u8 v) (u8L l) false = _
  cases M.u8 v <;> rfl
theorem ofBytes_cons (b : UInt8) (l : List UInt8) : ofBytes (b :: l) = .int .u8 b.toNat :: ofBytes l := rfl
theorem ofBytes_append (a b : List UInt8) : ofBytes (a ++ b) = ofBytes a ++ ofBytes b := by simp [ofBytes]
theorem ofBytes_length (l : List UInt8) : (ofBytes l).length = l.length := by simp [ofBytes]
theorem u8L_ofBytes (l : List UInt8) : u8L (ofBytes l) = true := by
  induction l with
  | nil => rfl
  | cons b l ih => rw [ofBytes_cons, u8L_cons, ih, Bool.and_true]; exact u8_iff.2 ⟨b, rfl⟩
theorem u8L_iff {cs : List AV} : u8L cs = true ↔ ∃ l, cs = ofBytes l := by
  constructor
  · intro h
    induction cs with
    | nil => exact ⟨[], rfl⟩
    | cons v cs ih =>
      rw [u8L_cons, Bool.and_eq_true] at h
      obtain ⟨b, rfl⟩ := u8_iff.1 h.1
      obtain ⟨l, rfl⟩ := ih h.2
      exact ⟨b :: l, rfl⟩
  · rintro ⟨l, rfl⟩; exact u8L_ofBytes l
theorem byte_int (b : UInt8) : M.byte (.int .u8 b.toNat) = b := by
  show UInt8.ofNat ((b.toNat : Int).toNat) = b
  simp
theorem bytesL_ofBytes (l : List UInt8) : bytesL (ofBytes l) = l := by
  induction l with
  | nil => rfl
  | cons b l ih =>
    show M.byte _ :: bytesL (ofBytes l) = _
    rw [ih, byte_int]
theorem bytesOf_ofBytes (l : List UInt8) : bytesOf (ofBytes l) = some l := by
  induction l with
  | nil => rfl
  | cons b l ih =>
    rw [ofBytes_cons]
    show ((byteOf (.int .u8 b.toNat)).ob fun c => (bytesOf (ofBytes l)).ob fun r => some (c :: r)) = _
    rw [ih]
    show some (UInt8.ofNat ((b.toNat : Int).toNat) :: l) = _
    simp
theorem ofBytes_plain (nf : Bool) (l : List UInt8) : AV.okL nf (fun _ => false) (ofBytes l) = true := by
  induction l with
  | nil => rfl
  | cons b l ih => rw [ofBytes_cons]; simp only [AV.okL, AV.ok, Bool.true_and]; exact ih
theorem ofBytes_plainL (l : List UInt8) : AV.plainL (ofBytes l) = true := by
  induction l with
  | nil => rfl
  | cons b l ih => rw [ofBytes_cons]; simp only [AV.plainL, AV.plain, Bool.true_and]; exact ih
theorem ofBytes_cells (l : List UInt8) : (ofBytes l).all AV.isCell = true := by
  induction l with
  | nil => rfl
  | cons b l ih => rw [ofBytes_cons, List.all_cons, ih]; rfl
theorem ofBytes_take (l : List UInt8) (n : Nat) : (ofBytes l).take n = ofBytes (l.take n) := by simp [ofBytes, List.map_take]
theorem ofBytes_drop (l : List UInt8) (n : Nat) : (ofBytes l).drop n = ofBytes (l.drop n) := by simp [ofBytes, List.map_drop]
theorem rowCut_ofBytes (l : List UInt8) (o n : Nat) : rowCut (ofBytes l) o n = ofBytes ((l.drop o).take n) := by
  unfold rowCut; rw [ofBytes_drop, ofBytes_take]
theorem putB_length (w x : Nat) : (putB w x).length = w := by simp [putB]
end Go.Ab
end
end

/- Bytes: copies; words written behind bytes. -/
section
set_option autoImplicit false
set_option linter.unusedVariables false
set_option linter.unusedSimpArgs false
set_option maxRecDepth 100000
noncomputable section
namespace Go.Ab
theorem shr_byte (x j : Nat) : wrapA .u8 (shrN (x : Int) (8 * j)) = ((UInt8.ofNat (x / 256 ^ j)).toNat : Int) := by
  have e : shrN (x : Int) (8 * j) = ((x / 2 ^ (8 * j) : Nat) : Int) := rfl
  rw [e, wrapA_eq]
  simp only [IntKind.wrap, IntKind.signed, IntKind.bits, Bool.false_and, Bool.false_eq_true, if_false]
  have h : (UInt8.ofNat (x / 256 ^ j)).toNat = x / 256 ^ j % 256 := by simp
  have h2 : (2 : Nat) ^ (8 * j) = 256 ^ j := by rw [Nat.pow_mul]
  rw [h, h2]; simp
theorem room_of {len k : Nat} (h : len ≤ 1099511627776) (hk : k ≤ 1099511627776) : appRoom 1 len k = true := by
  unfold appRoom; exact decide_eq_true (by omega)
theorem beq_of {a b : Nat} (h : a = b) : Nat.beq a b = true := by rw [nbeq]; exact decide_eq_true h
theorem beq_of1 {a b : Nat} (h : a = b) : Nat.beq a (Nat.mul b 1) = true := by rw [nbeq]; exact decide_eq_true (by show a = b * 1; omega)
theorem ble_of {a b : Nat} (h : a ≤ b) : Nat.ble a b = true := by rw [nble]; exact decide_eq_true h
theorem eq_of_beq' {a b : Nat} (h : Nat.beq a b = true) : a = b := Nat.eq_of_beq_eq_true h
theorem le_of_ble' {a b : Nat} (h : Nat.ble a b = true) : a ≤ b := Nat.le_of_ble_eq_true h
end Go.Ab
namespace Go.Proofs.Ytecncappdnhbaaa
open Go.Ab.M Go.Ab Go
/-- a copy of bytes. -/
def cloneR : RSum := RSum.nb true fun us => match us with
  | [.fsl true 0 []] => some ([], fun _ => .slice none 0 (some 0), [])
  | [.fsl false len cs] => some ([Nat.beq cs.length len, u8L cs, Nat.ble len 1099511627776], fun n => .slice (some (n, 0)) len none, [.cells true 5 len cs])
  | _ => none
abbrev F03a : FTab := [(67, cloneR)] ++ F01
abbrev C03a := mkCx tys fns F03a []
theorem cloneN :
    ∃ h', aCall C0 60 (Tgt.fn 67) [AV.fsl true 0 []] H0 = some (AV.slice none 0 (some 0), h') ∧ [].map h'.get = [] :=
  call_run (q := (oc 1 [])) (c := ([])) (by kernel_rfl) trivial
theorem clone0 (len : Nat) (cs : List AV) (h0 : (cs.length.beq (len.mul 1)) = true) (h1 : (len.beq 0) = true) :
    ∃ h', aCall C0 60 (Tgt.fn 67) [AV.fsl false len cs] H0 = some (AV.slice (some (0, 0)) 0 (some 0), h') ∧ [0].map h'.get = [Blk.cells true 5 0 []] :=
  call_run (q := (oc 2 (.y :: (.y :: [])))) (c := (Cnd.tst _ true :: Cnd.tst _ true :: [])) (by kernel_rfl) ⟨h0, h1, trivial⟩
theorem clone1 (len : Nat) (cs : List AV) (h0 : (cs.length.beq (len.mul 1)) = true) (h1 : (len.beq 0) = false) (h2 : (appRoom 1 0 len) = true) (h3 : (Nat.ble 1 (0 + len)) = true) :
    ∃ h', aCall C0 60 (Tgt.fn 67) [AV.fsl false len cs] H0 = some (AV.slice (some (1, 0)) (0 + len) none, h') ∧ [1].map h'.get = [Blk.cells true 5 ([] ++ cs).length ([] ++ cs)] :=
  call_run (q := (oc 2 (.y :: (.z :: (.y :: (.y :: (oc 1 []))))))) (c := (Cnd.tst _ true :: Cnd.tst _ false :: Cnd.tst _ true :: Cnd.tst _ true :: [])) (by kernel_rfl) ⟨h0, h1, h2, h3, trivial⟩
theorem cloneR_ok : RSum.Sound Try.prog tys 67 cloneR := by
  refine RSum.sound (cx_goes _ _) all0 (RSum.nb_ok fun us c v bs hm hc => ?_)
  split at hm
  · injection hm with hm; injection hm with e1 hm; injection hm with e2 e3; subst e1; subst e2; subst e3
    obtain ⟨h', h, _⟩ := cloneN
    exact ⟨(fun b hb => by cases hb), 60, h', [], _, h, rfl, (fun l l' j e => by cases e), rfl, fun n ρ hρ => AV.Le.refl _⟩
  · rename_i len cs
    injection hm with hm; injection hm with e1 hm; injection hm with e2 e3; subst e1; subst e2; subst e3
    simp only [allTrue_cons] at hc
    obtain ⟨c1, c2, c3, _⟩ := hc
    have c1 := eq_of_beq' c1
    have c3 := le_of_ble' c3
    obtain ⟨l, rfl⟩ := u8L_iff.1 c2
    refine ⟨fun b hb => ?_, ?_⟩
    · have : b = .cells true 5 len (ofBytes l) := by simpa using hb
      subst this
      simp only [Blk.plainOwn, ofBytes_plain, Bool.and_self]
    · by_cases h0 : len = 0
      · obtain ⟨h', h, hb⟩ := clone0 len (ofBytes l) (beq_of1 c1) (beq_of h0)
        refine ⟨60, h', [0], _, h, ?_, sel_one 0, rfl, fun n ρ hρ => ?_⟩
        · rw [hb, h0]
          have : ofBytes l = [] := List.eq_nil_of_length_eq_zero (by omega)
          rw [this]
        · have := hρ 0 0 rfl
          simp only [AV.ren, Option.map_some, this, Nat.add_zero, h0]
          exact AV.Le.empty n
      · obtain ⟨h', h, hb⟩ := clone1 len (ofBytes l) (beq_of1 c1) (by rw [nbeq]; exact decide_eq_false h0) (room_of (by omega) c3) (ble_of (by omega))
        refine ⟨60, h', [1], _, h, ?_, sel_one 1, rfl, fun n ρ hρ => ?_⟩
        · rw [hb, List.nil_append, c1]
        · have := hρ 0 1 rfl
          simp only [AV.ren, Option.map_some, this, Nat.add_zero, Nat.zero_add]
          exact AV.Le.refl _
  · cases hm
theorem f03a_ok : ∀ p ∈ F03a, RSum.Sound Try.prog tys p.1 p.2 := by
  intro p h
  rcases List.mem_cons.1 h with rfl | h
  · exact cloneR_ok
  · exact f01_ok p h
theorem all03a : SumAll Try.prog C03a := sums_all f03a_ok (fun _ h => by cases h)
theorem putu32N (x : Int) :
    ∃ h', aCall C03a 60 (Tgt.fn 78) [AV.fsl true 0 [], AV.int IntKind.u32 x] H0 = some (AV.slice (some (7, 0)) 4 none, h') ∧ [7].map h'.get = [Blk.cells true 5 4 [AV.int IntKind.u8 (wrapA IntKind.u8 (shrN x 24)), AV.int IntKind.u8 (wrapA IntKind.u8 (shrN x 16)), AV.int IntKind.u8 (wrapA IntKind.u8 (shrN x 8)), AV.int IntKind.u8 (wrapA IntKind.u8 (shrN x 0))]] :=
  call_run (q := (oc 40 [])) (c := ([])) (by kernel_rfl) trivial
theorem putu32 (x : Int) (len : Nat) (cs : List AV) (h0 : (AV.plainL cs) = true) (h1 : (cs.length.beq len) = true) (h2 : (u8L cs) = true) (h3 : (len.ble 1099511627776) = true) (h4 : (appRoom 1 len 1) = true) (h5 : (len.beq (len * 1)) = true) (h6 : (appRoom 1 (len + 1) 1) = true) (h7 : ((cs ++ [AV.int IntKind.u8 (wrapA IntKind.u8 (shrN x 24))]).length.beq ((len + 1) * 1)) = true) (h8 : (appRoom 1 (len + 1 + 1) 1) = true) (h9 : ((cs ++ [AV.int IntKind.u8 (wrapA IntKind.u8 (shrN x 24))] ++ [AV.int IntKind.u8 (wrapA IntKind.u8 (shrN x 16))]).length.beq ((len + 1 + 1) * 1)) = true) (h10 : (appRoom 1 (len + 1 + 1 + 1) 1) = true) (h11 : ((cs ++ [AV.int IntKind.u8 (wrapA IntKind.u8 (shrN x 24))] ++ [AV.int IntKind.u8 (wrapA IntKind.u8 (shrN x 16))] ++ [AV.int IntKind.u8 (wrapA IntKind.u8 (shrN x 8))]).length.beq ((len + 1 + 1 + 1) * 1)) = true) :
    ∃ h', aCall C03a 60 (Tgt.fn 78) [AV.fsl false len cs, AV.int IntKind.u32 x] H0 = some (AV.slice (some (8, 0)) (len + 1 + 1 + 1 + 1) none, h') ∧ [8].map h'.get = [Blk.cells true 5 (cs ++ [AV.int IntKind.u8 (wrapA IntKind.u8 (shrN x 24))] ++ [AV.int IntKind.u8 (wrapA IntKind.u8 (shrN x 16))] ++ [AV.int IntKind.u8 (wrapA IntKind.u8 (shrN x 8))] ++ [AV.int IntKind.u8 (wrapA IntKind.u8 (shrN x 0))]).length (cs ++ [AV.int IntKind.u8 (wrapA IntKind.u8 (shrN x 24))] ++ [AV.int IntKind.u8 (wrapA IntKind.u8 (shrN x 16))] ++ [AV.int IntKind.u8 (wrapA IntKind.u8 (shrN x 8))] ++ [AV.int IntKind.u8 (wrapA IntKind.u8 (shrN x 0))])] :=
  call_run (q := (.y :: (.y :: (.y :: (.y :: (oc 7 (.y :: (.y :: (oc 8 (.y :: (.y :: (oc 8 (.y :: (.y :: (oc 8 (.y :: (.y :: (oc 2 [])))))))))))))))))) (c := (Cnd.tst _ true :: Cnd.tst _ true :: Cnd.tst _ true :: Cnd.tst _ true :: Cnd.tst _ true :: Cnd.tst _ true :: Cnd.tst _ true :: Cnd.tst _ true :: Cnd.tst _ true :: Cnd.tst _ true :: Cnd.tst _ true :: Cnd.tst _ true :: [])) (by kernel_rfl) ⟨h0, h1, h2, h3, h4, h5, h6, h7, h8, h9, h10, h11, trivial⟩
theorem cells_u32 (x : Nat) (hx : x < 4294967296) : [AV.int .u8 (wrapA .u8 (shrN (x : Int) 24)), AV.int .u8 (wrapA .u8 (shrN (x : Int) 16)), AV.int .u8 (wrapA .u8 (shrN (x : Int) 8)), AV.int .u8 (wrapA .u8 (shrN (x : Int) 0))] = ofBytes (putB 4 x) := by
  have h : ofBytes (putB 4 x) = [.int .u8 ((UInt8.ofNat (x / 256 ^ 3)).toNat : Int), .int .u8 ((UInt8.ofNat (x / 256 ^ 2)).toNat : Int), .int .u8 ((UInt8.ofNat (x / 256 ^ 1)).toNat : Int), .int .u8 ((UInt8.ofNat (x / 256 ^ 0)).toNat : Int)] := rfl
  rw [h]
  have s : ∀ j, wrapA .u8 (shrN (x : Int) (8 * j)) = ((UInt8.ofNat (x / 256 ^ j)).toNat : Int) := shr_byte x
  have s0 := s 0
  have s1 := s 1
  have s2 := s 2
  have s3 := s 3
  simp only [← s0, ← s1, ← s2, ← s3]
def putRu32 : RSum := RSum.nb true fun us => match us with
  | [.fsl true 0 [], .int .u32 x] => some ([ileB 0 x, iltB x 4294967296], fun n => .slice (some (n, 0)) 4 none, [.cells true 5 4 (kept (ofBytes (putB 4 x.toNat)))])
  | [.fsl false len cs, .int .u32 x] => some ([Nat.beq cs.length len, u8L cs, Nat.ble len 1000000000000, ileB 0 x, iltB x 4294967296], fun n => .slice (some (n, 0)) (len + 4) none, [.cells true 5 (len + 4) (cs ++ kept (ofBytes (putB 4 x.toNat)))])
  | _ => none
theorem putRu32_ok : RSum.Sound Try.prog tys 78 putRu32 := by
  refine RSum.sound (cx_goes _ _) all03a (RSum.nb_ok fun us c v bs hm hc => ?_)
  split at hm
  · injection hm with hm; injection hm with e1 hm; injection hm with e2 e3; rw [kept_eq] at e3; subst e1; subst e2; subst e3
    simp only [allTrue_cons] at hc
    obtain ⟨c1, c2, _⟩ := hc
    obtain ⟨x, rfl⟩ := nat_of c1
    have c2 : x < 4294967296 := lt_of c2
    obtain ⟨h', h, hb⟩ := putu32N x
    refine ⟨fun b hb => ?_, 60, h', [7], _, h, ?_, sel_one 7, rfl, fun n ρ hρ => ?_⟩
    · have : b = .cells true 5 4 (ofBytes (putB 4 x)) := by simpa using hb
      subst this
      simp only [Blk.plainOwn, ofBytes_plain, Bool.and_self]
    · rw [hb, cells_u32 x c2]; rfl
    · have := hρ 0 7 rfl
      simp only [AV.ren, Option.map_some, this, Nat.add_zero]
      exact AV.Le.refl _
  · rename_i len cs x
    injection hm with hm; injection hm with e1 hm; injection hm with e2 e3; rw [kept_eq] at e3; subst e1; subst e2; subst e3
    simp only [allTrue_cons] at hc
    obtain ⟨c1, c2, c3, c4, c5, _⟩ := hc
    have c1 := eq_of_beq' c1
    have c3 := le_of_ble' c3
    obtain ⟨l, rfl⟩ := u8L_iff.1 c2
    obtain ⟨x, rfl⟩ := nat_of c4
    have c5 : x < 4294967296 := lt_of c5
    obtain ⟨h', h, hb⟩ := putu32 x len (ofBytes l) (ofBytes_plainL l) (beq_of c1) c2 (ble_of (by omega)) (room_of (by omega) (by omega)) (beq_of (by simp only [ofBytes_length, List.length_append, List.length_cons, List.length_nil] at c1 ⊢; omega)) (room_of (by omega) (by omega)) (beq_of (by simp only [ofBytes_length, List.length_append, List.length_cons, List.length_nil] at c1 ⊢; omega)) (room_of (by omega) (by omega)) (beq_of (by simp only [ofBytes_length, List.length_append, List.length_cons, List.length_nil] at c1 ⊢; omega)) (room_of (by omega) (by omega)) (beq_of (by simp only [ofBytes_length, List.length_append, List.length_cons, List.length_nil] at c1 ⊢; omega))
    refine ⟨fun b hb => ?_, 60, h', [8], _, h, ?_, sel_one 8, rfl, fun n ρ hρ => ?_⟩
    · have : b = .cells true 5 (len + 4) (ofBytes l ++ ofBytes (putB 4 x)) := by simpa using hb
      subst this
      rw [← ofBytes_append]
      simp only [Blk.plainOwn, ofBytes_plain, Bool.and_self]
    · rw [hb]
      try simp only [List.append_assoc, List.cons_append, List.nil_append]
      rw [cells_u32 x c5, List.length_append, c1, ofBytes_length, putB_length]; rfl
    · have := hρ 0 8 rfl
      simp only [AV.ren, Option.map_some, this, Nat.add_zero]
      exact AV.Le.refl _
  · cases hm
end Go.Proofs.Ytecncappdnhbaaa
end
end

/- Bytes: words read off bytes; the document's writing and reading. -/
section
set_option autoImplicit false
set_option linter.unusedVariables false
set_option linter.unusedSimpArgs false
set_option maxRecDepth 100000
noncomputable section
namespace Go.Ab
namespace M
end M
open M
theorem div_step (y : Nat) (h : y < 18446744073709551616) : wrapA .u64 ((y : Int).tdiv (Int.ofNat 256)) = ((y / 256 : Nat) : Int) := by
  have e : (y : Int).tdiv (Int.ofNat 256) = ((y / 256 : Nat) : Int) := rfl
  rw [e]; exact wrapA_nat .u64 _ (by show _ < 18446744073709551616; omega)
theorem low_byte (y : Nat) : wrapA .u8 ((y : Int).tmod (Int.ofNat 256)) = ((UInt8.ofNat y).toNat : Int) := by
  have e : (y : Int).tmod (Int.ofNat 256) = ((y % 256 : Nat) : Int) := rfl
  have h : (UInt8.ofNat y).toNat = y % 256 := by simp
  rw [e, h]; exact wrapA_nat .u8 _ (Nat.mod_lt _ (by decide))
end Go.Ab
namespace Go.Proofs.Ytecncappdnhbaaa
open Go.Ab.M Go.Ab Go
def isW (w : Nat) : Bool := Nat.beq w 1 || Nat.beq w 2 || Nat.beq w 4 || Nat.beq w 8
theorem isW_cases {w : Nat} (h : isW w = true) : w = 1 ∨ w = 2 ∨ w = 4 ∨ w = 8 := by
  simp only [isW, nbeq, Bool.or_eq_true, decide_eq_true_eq] at h; omega
theorem rput1 (x : Int) :
    ∃ h', aCall C01 60 (Tgt.fn 49) [AV.int IntKind.u64 x, AV.int IntKind.i64 (Int.ofNat 1)] H0 = some (AV.slice (some (0, 0)) 1 (some 1), h') ∧ [0].map h'.get = [Blk.cells true 5 1 [AV.int IntKind.u8 (wrapA IntKind.u8 (x.tmod (Int.ofNat 256)))]] :=
  call_run (q := (oc 13 [])) (c := ([])) (by kernel_rfl) trivial
theorem rput2 (x : Int) :
    ∃ h', aCall C01 60 (Tgt.fn 49) [AV.int IntKind.u64 x, AV.int IntKind.i64 (Int.ofNat 2)] H0 = some (AV.slice (some (0, 0)) 2 (some 2), h') ∧ [0].map h'.get = [Blk.cells true 5 2 [AV.int IntKind.u8 (wrapA IntKind.u8 ((wrapA IntKind.u64 (x.tdiv (Int.ofNat 256))).tmod (Int.ofNat 256))), AV.int IntKind.u8 (wrapA IntKind.u8 (x.tmod (Int.ofNat 256)))]] :=
  call_run (q := (oc 21 [])) (c := ([])) (by kernel_rfl) trivial
theorem rput4 (x : Int) :
    ∃ h', aCall C01 60 (Tgt.fn 49) [AV.int IntKind.u64 x, AV.int IntKind.i64 (Int.ofNat 4)] H0 = some (AV.slice (some (0, 0)) 4 (some 4), h') ∧ [0].map h'.get = [Blk.cells true 5 4 [AV.int IntKind.u8 (wrapA IntKind.u8 ((wrapA IntKind.u64 ((wrapA IntKind.u64 ((wrapA IntKind.u64 (x.tdiv (Int.ofNat 256))).tdiv (Int.ofNat 256))).tdiv (Int.ofNat 256))).tmod (Int.ofNat 256))), AV.int IntKind.u8 (wrapA IntKind.u8 ((wrapA IntKind.u64 ((wrapA IntKind.u64 (x.tdiv (Int.ofNat 256))).tdiv (Int.ofNat 256))).tmod (Int.ofNat 256))), AV.int IntKind.u8 (wrapA IntKind.u8 ((wrapA IntKind.u64 (x.tdiv (Int.ofNat 256))).tmod (Int.ofNat 256))), AV.int IntKind.u8 (wrapA IntKind.u8 (x.tmod (Int.ofNat 256)))]] :=
  call_run (q := (oc 37 [])) (c := ([])) (by kernel_rfl) trivial
theorem rput8 (x : Int) :
    ∃ h', aCall C01 60 (Tgt.fn 49) [AV.int IntKind.u64 x, AV.int IntKind.i64 (Int.ofNat 8)] H0 = some (AV.slice (some (0, 0)) 8 (some 8), h') ∧ [0].map h'.get = [Blk.cells true 5 8 [AV.int IntKind.u8 (wrapA IntKind.u8 ((wrapA IntKind.u64 ((wrapA IntKind.u64 ((wrapA IntKind.u64 ((wrapA IntKind.u64 ((wrapA IntKind.u64 ((wrapA IntKind.u64 ((wrapA IntKind.u64 (x.tdiv (Int.ofNat 256))).tdiv (Int.ofNat 256))).tdiv (Int.ofNat 256))).tdiv (Int.ofNat 256))).tdiv (Int.ofNat 256))).tdiv (Int.ofNat 256))).tdiv (Int.ofNat 256))).tmod (Int.ofNat 256))), AV.int IntKind.u8 (wrapA IntKind.u8 ((wrapA IntKind.u64 ((wrapA IntKind.u64 ((wrapA IntKind.u64 ((wrapA IntKind.u64 ((wrapA IntKind.u64 ((wrapA IntKind.u64 (x.tdiv (Int.ofNat 256))).tdiv (Int.ofNat 256))).tdiv (Int.ofNat 256))).tdiv (Int.ofNat 256))).tdiv (Int.ofNat 256))).tdiv (Int.ofNat 256))).tmod (Int.ofNat 256))), AV.int IntKind.u8 (wrapA IntKind.u8 ((wrapA IntKind.u64 ((wrapA IntKind.u64 ((wrapA IntKind.u64 ((wrapA IntKind.u64 ((wrapA IntKind.u64 (x.tdiv (Int.ofNat 256))).tdiv (Int.ofNat 256))).tdiv (Int.ofNat 256))).tdiv (Int.ofNat 256))).tdiv (Int.ofNat 256))).tmod (Int.ofNat 256))), AV.int IntKind.u8 (wrapA IntKind.u8 ((wrapA IntKind.u64 ((wrapA IntKind.u64 ((wrapA IntKind.u64 ((wrapA IntKind.u64 (x.tdiv (Int.ofNat 256))).tdiv (Int.ofNat 256))).tdiv (Int.ofNat 256))).tdiv (Int.ofNat 256))).tmod (Int.ofNat 256))), AV.int IntKind.u8 (wrapA IntKind.u8 ((wrapA IntKind.u64 ((wrapA IntKind.u64 ((wrapA IntKind.u64 (x.tdiv (Int.ofNat 256))).tdiv (Int.ofNat 256))).tdiv (Int.ofNat 256))).tmod (Int.ofNat 256))), AV.int IntKind.u8 (wrapA IntKind.u8 ((wrapA IntKind.u64 ((wrapA IntKind.u64 (x.tdiv (Int.ofNat 256))).tdiv (Int.ofNat 256))).tmod (Int.ofNat 256))), AV.int IntKind.u8 (wrapA IntKind.u8 ((wrapA IntKind.u64 (x.tdiv (Int.ofNat 256))).tmod (Int.ofNat 256))), AV.int IntKind.u8 (wrapA IntKind.u8 (x.tmod (Int.ofNat 256)))]] :=
  call_run (q := (oc 69 [])) (c := ([])) (by kernel_rfl) trivial
theorem rcells1 (x : Nat) (hx : x < 18446744073709551616) : [AV.int .u8 (wrapA .u8 ((x : Int).tmod (Int.ofNat 256)))] = ofBytes (putB 1 x) := by
  have h : ofBytes (putB 1 x) = [.int .u8 ((UInt8.ofNat (x / 256 ^ 0)).toNat : Int)] := rfl
  have e0 : (x : Int) = ((x / 256 ^ 0 : Nat) : Int) := by simp

  rw [h, e0]
  try simp only [low_byte]
  try simp only [low_byte]
theorem rcells2 (x : Nat) (hx : x < 18446744073709551616) : [AV.int .u8 (wrapA .u8 ((wrapA .u64 ((x : Int).tdiv (Int.ofNat 256))).tmod (Int.ofNat 256))), AV.int .u8 (wrapA .u8 ((x : Int).tmod (Int.ofNat 256)))] = ofBytes (putB 2 x) := by
  have h : ofBytes (putB 2 x) = [.int .u8 ((UInt8.ofNat (x / 256 ^ 1)).toNat : Int), .int .u8 ((UInt8.ofNat (x / 256 ^ 0)).toNat : Int)] := rfl
  have e0 : (x : Int) = ((x / 256 ^ 0 : Nat) : Int) := by simp
  have d0 : wrapA .u64 (((x / 256 ^ 0 : Nat) : Int).tdiv (Int.ofNat 256)) = ((x / 256 ^ 1 : Nat) : Int) := by rw [div_step _ (by omega), Nat.div_div_eq_div_mul, ← Nat.pow_succ]
  rw [h, e0]
  try simp only [d0]
  try simp only [low_byte]
theorem rcells4 (x : Nat) (hx : x < 18446744073709551616) : [AV.int .u8 (wrapA .u8 ((wrapA .u64 ((wrapA .u64 ((wrapA .u64 ((x : Int).tdiv (Int.ofNat 256))).tdiv (Int.ofNat 256))).tdiv (Int.ofNat 256))).tmod (Int.ofNat 256))), AV.int .u8 (wrapA .u8 ((wrapA .u64 ((wrapA .u64 ((x : Int).tdiv (Int.ofNat 256))).tdiv (Int.ofNat 256))).tmod (Int.ofNat 256))), AV.int .u8 (wrapA .u8 ((wrapA .u64 ((x : Int).tdiv (Int.ofNat 256))).tmod (Int.ofNat 256))), AV.int .u8 (wrapA .u8 ((x : Int).tmod (Int.ofNat 256)))] = ofBytes (putB 4 x) := by
  have h : ofBytes (putB 4 x) = [.int .u8 ((UInt8.ofNat (x / 256 ^ 3)).toNat : Int), .int .u8 ((UInt8.ofNat (x / 256 ^ 2)).toNat : Int), .int .u8 ((UInt8.ofNat (x / 256 ^ 1)).toNat : Int), .int .u8 ((UInt8.ofNat (x / 256 ^ 0)).toNat : Int)] := rfl
  have e0 : (x : Int) = ((x / 256 ^ 0 : Nat) : Int) := by simp
  have d0 : wrapA .u64 (((x / 256 ^ 0 : Nat) : Int).tdiv (Int.ofNat 256)) = ((x / 256 ^ 1 : Nat) : Int) := by rw [div_step _ (by omega), Nat.div_div_eq_div_mul, ← Nat.pow_succ]
  have d1 : wrapA .u64 (((x / 256 ^ 1 : Nat) : Int).tdiv (Int.ofNat 256)) = ((x / 256 ^ 2 : Nat) : Int) := by rw [div_step _ (by omega), Nat.div_div_eq_div_mul, ← Nat.pow_succ]
  have d2 : wrapA .u64 (((x / 256 ^ 2 : Nat) : Int).tdiv (Int.ofNat 256)) = ((x / 256 ^ 3 : Nat) : Int) := by rw [div_step _ (by omega), Nat.div_div_eq_div_mul, ← Nat.pow_succ]
  rw [h, e0]
  try simp only [d0, d1, d2]
  try simp only [low_byte]
theorem rcells8 (x : Nat) (hx : x < 18446744073709551616) : [AV.int .u8 (wrapA .u8 ((wrapA .u64 ((wrapA .u64 ((wrapA .u64 ((wrapA .u64 ((wrapA .u64 ((wrapA .u64 ((wrapA .u64 ((x : Int).tdiv (Int.ofNat 256))).tdiv (Int.ofNat 256))).tdiv (Int.ofNat 256))).tdiv (Int.ofNat 256))).tdiv (Int.ofNat 256))).tdiv (Int.ofNat 256))).tdiv (Int.ofNat 256))).tmod (Int.ofNat 256))), AV.int .u8 (wrapA .u8 ((wrapA .u64 ((wrapA .u64 ((wrapA .u64 ((wrapA .u64 ((wrapA .u64 ((wrapA .u64 ((x : Int).tdiv (Int.ofNat 256))).tdiv (Int.ofNat 256))).tdiv (Int.ofNat 256))).tdiv (Int.ofNat 256))).tdiv (Int.ofNat 256))).tdiv (Int.ofNat 256))).tmod (Int.ofNat 256))), AV.int .u8 (wrapA .u8 ((wrapA .u64 ((wrapA .u64 ((wrapA .u64 ((wrapA .u64 ((wrapA .u64 ((x : Int).tdiv (Int.ofNat 256))).tdiv (Int.ofNat 256))).tdiv (Int.ofNat 256))).tdiv (Int.ofNat 256))).tdiv (Int.ofNat 256))).tmod (Int.ofNat 256))), AV.int .u8 (wrapA .u8 ((wrapA .u64 ((wrapA .u64 ((wrapA .u64 ((wrapA .u64 ((x : Int).tdiv (Int.ofNat 256))).tdiv (Int.ofNat 256))).tdiv (Int.ofNat 256))).tdiv (Int.ofNat 256))).tmod (Int.ofNat 256))), AV.int .u8 (wrapA .u8 ((wrapA .u64 ((wrapA .u64 ((wrapA .u64 ((x : Int).tdiv (Int.ofNat 256))).tdiv (Int.ofNat 256))).tdiv (Int.ofNat 256))).tmod (Int.ofNat 256))), AV.int .u8 (wrapA .u8 ((wrapA .u64 ((wrapA .u64 ((x : Int).tdiv (Int.ofNat 256))).tdiv (Int.ofNat 256))).tmod (Int.ofNat 256))), AV.int .u8 (wrapA .u8 ((wrapA .u64 ((x : Int).tdiv (Int.ofNat 256))).tmod (Int.ofNat 256))), AV.int .u8 (wrapA .u8 ((x : Int).tmod (Int.ofNat 256)))] = ofBytes (putB 8 x) := by
  have h : ofBytes (putB 8 x) = [.int .u8 ((UInt8.ofNat (x / 256 ^ 7)).toNat : Int), .int .u8 ((UInt8.ofNat (x / 256 ^ 6)).toNat : Int), .int .u8 ((UInt8.ofNat (x / 256 ^ 5)).toNat : Int), .int .u8 ((UInt8.ofNat (x / 256 ^ 4)).toNat : Int), .int .u8 ((UInt8.ofNat (x / 256 ^ 3)).toNat : Int), .int .u8 ((UInt8.ofNat (x / 256 ^ 2)).toNat : Int), .int .u8 ((UInt8.ofNat (x / 256 ^ 1)).toNat : Int), .int .u8 ((UInt8.ofNat (x / 256 ^ 0)).toNat : Int)] := rfl
  have e0 : (x : Int) = ((x / 256 ^ 0 : Nat) : Int) := by simp
  have d0 : wrapA .u64 (((x / 256 ^ 0 : Nat) : Int).tdiv (Int.ofNat 256)) = ((x / 256 ^ 1 : Nat) : Int) := by rw [div_step _ (by omega), Nat.div_div_eq_div_mul, ← Nat.pow_succ]
  have d1 : wrapA .u64 (((x / 256 ^ 1 : Nat) : Int).tdiv (Int.ofNat 256)) = ((x / 256 ^ 2 : Nat) : Int) := by rw [div_step _ (by omega), Nat.div_div_eq_div_mul, ← Nat.pow_succ]
  have d2 : wrapA .u64 (((x / 256 ^ 2 : Nat) : Int).tdiv (Int.ofNat 256)) = ((x / 256 ^ 3 : Nat) : Int) := by rw [div_step _ (by omega), Nat.div_div_eq_div_mul, ← Nat.pow_succ]
  have d3 : wrapA .u64 (((x / 256 ^ 3 : Nat) : Int).tdiv (Int.ofNat 256)) = ((x / 256 ^ 4 : Nat) : Int) := by rw [div_step _ (by omega), Nat.div_div_eq_div_mul, ← Nat.pow_succ]
  have d4 : wrapA .u64 (((x / 256 ^ 4 : Nat) : Int).tdiv (Int.ofNat 256)) = ((x / 256 ^ 5 : Nat) : Int) := by rw [div_step _ (by omega), Nat.div_div_eq_div_mul, ← Nat.pow_succ]
  have d5 : wrapA .u64 (((x / 256 ^ 5 : Nat) : Int).tdiv (Int.ofNat 256)) = ((x / 256 ^ 6 : Nat) : Int) := by rw [div_step _ (by omega), Nat.div_div_eq_div_mul, ← Nat.pow_succ]
  have d6 : wrapA .u64 (((x / 256 ^ 6 : Nat) : Int).tdiv (Int.ofNat 256)) = ((x / 256 ^ 7 : Nat) : Int) := by rw [div_step _ (by omega), Nat.div_div_eq_div_mul, ← Nat.pow_succ]
  rw [h, e0]
  try simp only [d0, d1, d2, d3, d4, d5, d6]
  try simp only [low_byte]
def rputR : RSum := RSum.nb true fun us => match us with
  | [.int .u64 x, .int .i64 (.ofNat w)] => some ([isW w, ileB 0 x, iltB x 18446744073709551616], fun n => .slice (some (n, 0)) w (some w), [.cells true 5 w (kept (ofBytes (putB w x.toNat)))])
  | _ => none
theorem rputR_ok : RSum.Sound Try.prog tys 49 rputR := by
  refine RSum.sound (cx_goes _ _) all01 (RSum.nb_ok fun us c v bs hm hc => ?_)
  split at hm
  · rename_i x w
    injection hm with hm; injection hm with e1 hm; injection hm with e2 e3; rw [kept_eq] at e3; subst e1; subst e2; subst e3
    simp only [allTrue_cons] at hc
    obtain ⟨c1, c2, c3, _⟩ := hc
    obtain ⟨x, rfl⟩ := nat_of c2
    have c3 : x < 18446744073709551616 := lt_of c3
    refine ⟨fun b hb => ?_, ?_⟩
    · have : b = .cells true 5 w (ofBytes (putB w x)) := by simpa using hb
      subst this
      simp only [Blk.plainOwn, ofBytes_plain, Bool.and_self]
    · have fin : ∀ (n : Nat) (ρ : Nat → Nat), (∀ (l j : Nat), [0][l]? = some j → ρ j = n + l) → AV.Le ((AV.slice (some (0, 0)) w (some w)).ren ρ) (.slice (some (n, 0)) w (some w)) := by
        intro n ρ hρ
        have := hρ 0 0 rfl
        simp only [AV.ren, Option.map_some, this, Nat.add_zero]
        exact AV.Le.refl _
      rcases isW_cases c1 with rfl | rfl | rfl | rfl
      · obtain ⟨h', h, hb⟩ := rput1 x
        exact ⟨60, h', [0], _, h, by rw [hb, rcells1 x c3]; rfl, sel_one 0, rfl, fin⟩
      · obtain ⟨h', h, hb⟩ := rput2 x
        exact ⟨60, h', [0], _, h, by rw [hb, rcells2 x c3]; rfl, sel_one 0, rfl, fin⟩
      · obtain ⟨h', h, hb⟩ := rput4 x
        exact ⟨60, h', [0], _, h, by rw [hb, rcells4 x c3]; rfl, sel_one 0, rfl, fin⟩
      · obtain ⟨h', h, hb⟩ := rput8 x
        exact ⟨60, h', [0], _, h, by rw [hb, rcells8 x c3]; rfl, sel_one 0, rfl, fin⟩
  · cases hm
end Go.Proofs.Ytecncappdnhbaaa
end
end

/- Bytes added bit by bit; are all noughts? The loops. -/
section
set_option autoImplicit false
set_option linter.unusedVariables false
set_option linter.unusedSimpArgs false
set_option maxRecDepth 100000
noncomputable section
namespace Go.Ab
namespace M
def xorB (n : Nat) (a b : List UInt8) : List UInt8 := (List.range n).map fun i => a.getD i 0 ^^^ b.getD i 0
end M
open M
end Go.Ab
namespace Go.Proofs.Ytecncappdnhbaaa
open Go.Ab.M Go.Ab Go
structure XorS where
  a0 : Bool
  l : List UInt8
  a1 : Bool
  m : List UInt8
  n : Nat
  c : Nat
  cs : List AV
  i : Nat
def XorS.enc (p : XorS) : HSt := (.slice (some (0, 0)) p.n (some p.c), some (.cells true 5 p.n (ofBytes ((xorB p.n p.l p.m).take p.i) ++ p.cs.drop p.i)), [.fsl p.a0 p.l.length (ofBytes p.l), .fsl p.a1 p.m.length (ofBytes p.m), .int .i64 (.ofNat p.n), .int .i64 (.ofNat p.i)])
def XorS.fin (p : XorS) : AX × HSt := (.exit 0, .slice (some (0, 0)) p.n (some p.c), some (.cells true 5 p.n (ofBytes (xorB p.n p.l p.m))), [.fsl p.a0 p.l.length (ofBytes p.l), .fsl p.a1 p.m.length (ofBytes p.m), .int .i64 (.ofNat p.n), .int .i64 (.ofNat p.n)])
def XorS.ok (p : XorS) : Prop := p.n ≤ p.l.length ∧ p.n ≤ p.m.length ∧ p.cs.length = p.n ∧ AV.plainL p.cs = true ∧ p.i ≤ p.n ∧ p.n ≤ 1000000000000
end Go.Proofs.Ytecncappdnhbaaa
end
end

/- Are all noughts? and the law's own loop. -/
section
set_option autoImplicit false
set_option linter.unusedVariables false
set_option linter.unusedSimpArgs false
set_option maxRecDepth 100000
noncomputable section
namespace Go.Ab
namespace M
def zeroL (cs : List AV) : Bool := kept ((bytesL cs).all fun b => b == 0)
def firstNZ (cs : List AV) : Nat := kept ((bytesL cs).findIdx fun b => b != 0)
end M
open M
end Go.Ab
namespace Go.Proofs.Ytecncappdnhbaaa
open Go.Ab.M Go.Ab Go
structure IdxS where
  nl : Bool
  l : List UInt8
  z : Int
  i : Nat
def IdxS.enc (p : IdxS) : HSt := (.int .i64 (.ofNat p.i), none, [.fsl p.nl p.l.length (ofBytes p.l), .func 83 [] [], .int .i64 p.z, .int .i64 (.ofNat p.l.length)])
def idxN : HLoop := ⟨19, blockOf Try.f101 0, 8, [0, 1, 4, 7], fun v ob us => match v, ob, us with
  | .int .i64 (.ofNat 0), none, [.fsl nl len cs, .func 83 [] [], .int .i64 z, .int .i64 (.ofNat n)] =>
    some ([u8L cs, Nat.beq cs.length len, Nat.beq n len, !zeroL cs, Nat.ble len 1000000000000], .ret, .int .i64 (.ofNat (firstNZ cs)), none, [.fsl nl len cs, .func 83 [] [], .int .i64 (.ofNat (firstNZ cs)), .int .i64 (.ofNat n)])
  | _, _, _ => none⟩
structure LawS where
  a0 : Bool
  l : List UInt8
  a1 : Bool
  m : List UInt8
  z : Int
  n : Nat
  c : Nat
  i : Nat
def LawS.enc (p : LawS) : HSt := (.slice (some (0, 0)) p.n (some p.c), some (.cells true 5 p.n (ofBytes (xorB p.n p.l p.m))), [.fsl p.a0 p.l.length (ofBytes p.l), .fsl p.a1 p.m.length (ofBytes p.m), .int .i64 p.z, .int .i64 (.ofNat p.n), .int .i64 (.ofNat p.i)])
def LawS.fin (p : LawS) : AX × HSt := (.exit 0, .slice (some (0, 0)) p.n (some p.c), some (.cells true 5 p.n (ofBytes (xorB p.n p.l p.m))), [.fsl p.a0 p.l.length (ofBytes p.l), .fsl p.a1 p.m.length (ofBytes p.m), .int .i64 p.z, .int .i64 (.ofNat p.n), .int .i64 (.ofNat p.n)])
end Go.Proofs.Ytecncappdnhbaaa
end
end

/- Rows of Xor and of Zero. -/
section
set_option autoImplicit false
set_option linter.unusedVariables false
set_option linter.unusedSimpArgs false
set_option maxRecDepth 100000
noncomputable section
namespace Go.Proofs.Ytecncappdnhbaaa
open Go.Ab.M Go.Ab Go
end Go.Proofs.Ytecncappdnhbaaa
end
end

/- Words written behind bytes: what is written stays folded. -/
section
set_option autoImplicit false
set_option linter.unusedVariables false
set_option linter.unusedSimpArgs false
set_option maxRecDepth 100000
noncomputable section
namespace Go.Ab
open Go.RowKit
/-- A row says what another one says, where its conditions hold. -/
theorem RSum.Sound.of {P : Program} {ty : TypeId → Option ATy} {g : FuncId} {s s' : RSum} (h : RSum.Sound P ty g s) (hn : s'.nf = s.nf)
    (hm : ∀ us c' q, s'.m us = some (c', q) → allTrue c' = true → ∃ c, s.m us = some (c, q) ∧ allTrue c = true) : RSum.Sound P ty g s' := by
  intro base w0 g' args H H' v μ w xs hsum hw hr r n
  have hsum' : ftSum ty [(g, s')] g' args H = some (v, H') := hsum
  unfold ftSum at hsum'
  replace hsum' := ob_eq hsum'; obtain ⟨s1, hf, hsum'⟩ := hsum'
  have hg : (g', s1) = (g, s') := by simpa using ftFind_mem hf
  injection hg with hg1 hg2
  subst hg1; subst hg2
  replace hsum' := ob_eq hsum'; obtain ⟨⟨c1, us⟩, hv, hsum'⟩ := hsum'
  replace hsum' := ob_eq hsum'; obtain ⟨⟨c2, q⟩, hq, hsum'⟩ := hsum'
  simp only at hsum' hq
  cases hc : allTrue (c1 ++ c2) with
  | false => rw [hc] at hsum'; cases hsum'
  | true =>
    rw [hc, cb_true] at hsum'
    rw [allTrue_append] at hc
    obtain ⟨c, h1, h2⟩ := hm us c2 q hq hc.2
    refine h base w0 (g := g') (args := args) (H := H) (H' := H') (v := v) (μ := μ) (w := w) (xs := xs) ?_ hw hr r n
    show ftSum ty [(g', s)] g' args H = some (v, H')
    unfold ftSum
    have e1 : ftFind [(g', s)] g' = some s := by
      show cb (Nat.beq g' g') _ _ = _
      simp
    rw [e1, ob_some, ← hn, hv, ob_some]
    simp only
    rw [h1, ob_some]
    simp only
    rw [allTrue_append.2 ⟨hc.1, h2⟩, cb_true]
    exact hsum'
end Go.Ab
namespace Go.Proofs.Ytecncappdnhbaaa
open Go.Ab.M Go.Ab Go
def putKu32 : RSum := RSum.nb true fun us => match us with
  | [.fsl false len cs, .int .u32 x] => some ([Nat.beq cs.length len, u8L cs, Nat.ble len 1000000000000, ileB 0 x, iltB x 4294967296], fun n => .slice (some (n, 0)) (len + 4) none, [.cells true 5 (len + 4) (kept (ofBytes (bytesL cs ++ putB 4 x.toNat)))])
  | _ => none
theorem putKu32_ok : RSum.Sound Try.prog tys 78 putKu32 := by
  refine putRu32_ok.of rfl fun us c' q hq hc => ?_
  simp only [putKu32, RSum.nb] at hq
  replace hq := ob_eq hq; obtain ⟨⟨c1, v, bs⟩, hm, hq⟩ := hq
  injection hq with hq; injection hq with e1 e2; subst e1; subst e2
  split at hm
  · rename_i len cs x
    injection hm with hm; injection hm with e1 hm; injection hm with e2 e3; subst e1; subst e2; subst e3
    refine ⟨_, ?_, hc⟩
    simp only [allTrue_cons] at hc
    obtain ⟨b, rfl⟩ := u8L_iff.1 hc.2.1
    show (some _ : Option _) = some _
    simp only [kept_eq, bytesL_ofBytes, ofBytes_append]
  · cases hm
end Go.Proofs.Ytecncappdnhbaaa
end
end

/- RequestReplies: what is known of the functions that the law calls. -/
section
set_option autoImplicit false
set_option linter.unusedVariables false
set_option linter.unusedSimpArgs false
set_option maxRecDepth 100000
noncomputable section
namespace Go.Proofs.Ytecncappdnhbaaa
open Go.Ab.M Go.Ab Go
theorem lives24_ok : RSum.Sound Try.prog tys 46 (RSum.const (.bool true)) := RSum.sound (cx_goes _ _) all0 (RSum.const_ok rfl (run_val (f := 100) (by kernel_rfl)))
abbrev T9a : TTab := [(78, putKu32.rt), (49, rputR.rt), (67, cloneR.rt), (46, (RSum.const (.bool true)).rt)]
theorem T9a_ok : TOK Try.prog tys T9a := ⟨RSum.rt_sound putKu32_ok, RSum.rt_sound rputR_ok, RSum.rt_sound cloneR_ok, RSum.rt_sound lives24_ok, trivial⟩
def K9a : Known := { t := T9a }
theorem K9a_ok : KOK Try.prog tys K9a := ⟨T9a_ok, trivial, trivial, trivial, trivial⟩
abbrev C9a := mkCxZ tys fns K9a
theorem all9a : SumAll Try.prog C9a := sums_allZ K9a_ok
end Go.Proofs.Ytecncappdnhbaaa
end
end

/- Rows of numbers. -/
section
set_option autoImplicit false
set_option linter.unusedVariables false
set_option linter.unusedSimpArgs false
noncomputable section
namespace Go.Ab
namespace M
def encZ (l : List Int) : List AV := l.map (AV.int .i64)
def isZ (cs : List AV) : Bool := cs.all (AV.isInt .i64)
def intsZ (cs : List AV) : List Int := cs.map AV.intOf
end M
open M
theorem isZ_iff {cs : List AV} : isZ cs = true ↔ ∃ l, cs = encZ l := by
  constructor
  · intro h
    refine ⟨intsZ cs, ?_⟩
    unfold intsZ encZ
    rw [List.map_map]
    conv => lhs; rw [← List.map_id cs]
    refine List.map_congr_left fun v hv => ?_
    have := List.all_eq_true.1 h v hv
    cases v <;> simp [AV.isInt] at this
    subst this; rfl
  · rintro ⟨l, rfl⟩
    unfold isZ encZ
    rw [List.all_map]
    exact List.all_eq_true.2 fun x _ => rfl
theorem intsZ_encZ (l : List Int) : intsZ (encZ l) = l := by
  unfold intsZ encZ
  rw [List.map_map]
  conv => rhs; rw [← List.map_id l]
  exact List.map_congr_left fun x _ => rfl
theorem encZ_length (l : List Int) : (encZ l).length = l.length := by unfold encZ; rw [List.length_map]
theorem encZ_plainL (l : List Int) : AV.plainL (encZ l) = true := by
  induction l with
  | nil => rfl
  | cons x l ih => exact ih
theorem encZ_at (l : List Int) (i : Nat) (n : Int) (h : l[i]? = some n) : (listAt (List.drop ((Int.ofNat i).toNat * 1) (encZ l)) 0).getD AV.undef = .int .i64 n := by
  have e : (Int.ofNat i).toNat * 1 = i := Nat.mul_one i
  rw [e, listAt_eq, List.getElem?_drop]
  unfold encZ
  rw [List.getElem?_map, Nat.add_zero, h]; rfl
theorem bytesEq_refl (b : List UInt8) : bytesEq b b = true := by rw [bytesEq_eq]; exact beq_self_eq_true b
end Go.Ab
end
end

/- RequestReplies: the loops over the live ones. -/
section
set_option autoImplicit false
set_option linter.unusedVariables false
set_option linter.unusedSimpArgs false
set_option maxRecDepth 100000
noncomputable section
namespace Go.Ab
namespace M
def livB (zs : List Int) : List UInt8 := zs.map fun p => UInt8.ofNat (wrapA .u8 p).toNat
end M
open M
theorem u8_wrap (p : Int) : AV.int IntKind.u8 (wrapA .u8 p) = .int .u8 ((UInt8.ofNat (wrapA .u8 p).toNat).toNat : Int) := by
  have h : 0 ≤ wrapA .u8 p ∧ wrapA .u8 p < 256 := by
    rw [wrapA_eq]; simp only [IntKind.wrap, IntKind.signed, IntKind.bits, Bool.false_and, Bool.false_eq_true, if_false]; omega
  congr 1
  rw [UInt8.toNat_ofNat']
  omega
end Go.Ab
namespace Go.Proofs.Ytecncappdnhbaaa
open Go.Ab.M Go.Ab Go
theorem ra_rA (s0 : Int) (s1 : Int) (s2 : Int) (s3 : Int) (s4 : Int) (la : Bool) (ll : Nat) (lv : List AV) (la2 : Bool) (ll2 : Nat) (lv2 : List AV) (s6 : Int) (s7 : Int) (s8 : Int) (s9 : Int) (s10 : Int) (n : Nat) (n2 : Nat) (m : Nat) (i : Nat) (cs : List AV) (h0 : (iltB (Int.ofNat i) (Int.ofNat m)) = true) (h1 : ((Int.ofNat i).toNat.succ.ble ll) = true) (h2 : (lv.length.beq (ll.mul 1)) = true) (h3 : (Nat.ble 1 (List.drop ((Int.ofNat i).toNat * 1) lv).length) = true) (h4 : (AV.isInt IntKind.i64 ((listAt (List.drop ((Int.ofNat i).toNat * 1) lv) 0).getD AV.undef)) = true) (h5 : (appRoom 1 n 1) = true) (h6 : (n2.beq (n * 1)) = true) (h7 : (AV.plainL lv) = true) (h8 : (AV.plainL lv2) = true) (h9 : (AV.plainL (cs ++ [AV.int IntKind.u8 (wrapA IntKind.u8 ((listAt (List.drop ((Int.ofNat i).toNat * 1) lv) 0).getD AV.undef).intOf)])) = true) :
    CodeOK Try.prog (tyCx tys) 162 2 (roundOf (blockOf Try.f11 2)) { fr := frameOf 162 ([5, 13, 125, 126, 127].zip [AV.ptr (some (0, 0)), AV.slice (some (1, 0)) n none, AV.fsl la ll lv, AV.int IntKind.i64 (Int.ofNat m), AV.int IntKind.i64 (Int.ofNat i)]), ds := upTo 0, H := mkL [Blk.cells true 80 11 [AV.int IntKind.i64 s0, AV.int IntKind.i64 s1, AV.int IntKind.i64 s2, AV.int IntKind.i64 s3, AV.int IntKind.i64 s4, AV.fsl la2 ll2 lv2, AV.int IntKind.u32 s6, AV.int IntKind.u32 s7, AV.int IntKind.i64 s8, AV.int IntKind.u32 s9, AV.int IntKind.u32 s10], Blk.cells true 5 n2 cs] } (AX.normal) ⟨frameOf 162 ([5, 13, 125, 126, 127].zip [AV.ptr (some (0, 0)), AV.slice (some (2, 0)) (n + 1) none, AV.fsl la ll lv, AV.int IntKind.i64 (Int.ofNat m), AV.int IntKind.i64 (wrapA IntKind.i64 ((Int.ofNat i).add (Int.ofNat 1)))]), upTo 0, mkL [Blk.cells true 80 11 [AV.int IntKind.i64 s0, AV.int IntKind.i64 s1, AV.int IntKind.i64 s2, AV.int IntKind.i64 s3, AV.int IntKind.i64 s4, AV.fsl la2 ll2 lv2, AV.int IntKind.u32 s6, AV.int IntKind.u32 s7, AV.int IntKind.i64 s8, AV.int IntKind.u32 s9, AV.int IntKind.u32 s10], Blk.dead, Blk.cells true 5 (cs ++ [AV.int IntKind.u8 (wrapA IntKind.u8 ((listAt (List.drop ((Int.ofNat i).toNat * 1) lv) 0).getD AV.undef).intOf)]).length (cs ++ [AV.int IntKind.u8 (wrapA IntKind.u8 ((listAt (List.drop ((Int.ofNat i).toNat * 1) lv) 0).getD AV.undef).intOf)])]⟩ :=
  zrows_run (g := 30) (k := 11) (f := 30) (sl := [5, 13, 125, 126, 127]) (ks := [0, 1, 3]) (rs := []) (ds := []) (cxZ cx_goes) all9a (q := (.y :: (oc 1 (.y :: (.y :: (.y :: (.y :: (oc 5 (.y :: (.y :: (oc 1 []))))))))))) (c := (Cnd.tst _ true :: Cnd.tst _ true :: Cnd.tst _ true :: Cnd.tst _ true :: Cnd.tst _ true :: Cnd.tst _ true :: Cnd.tst _ true :: [])) (cq := [true, true, AV.plainL lv, true, AV.plainL lv2, true, AV.plainL (cs ++ [AV.int IntKind.u8 (wrapA IntKind.u8 ((listAt (List.drop ((Int.ofNat i).toNat * 1) lv) 0).getD AV.undef).intOf)])]) (by kernel_rfl) ⟨h0, h1, h2, h3, h4, h5, h6, trivial⟩ (holdsB ⟨rfl, rfl, h7, rfl, h8, rfl, h9, trivial⟩) (by kernel_rfl) (by kernel_rfl) (by kernel_rfl) (by kernel_rfl) (by kernel_rfl)
theorem ra_xA (s0 : Int) (s1 : Int) (s2 : Int) (s3 : Int) (s4 : Int) (la : Bool) (ll : Nat) (lv : List AV) (la2 : Bool) (ll2 : Nat) (lv2 : List AV) (s6 : Int) (s7 : Int) (s8 : Int) (s9 : Int) (s10 : Int) (n : Nat) (n2 : Nat) (m : Nat) (i : Nat) (cs : List AV) (h0 : (iltB (Int.ofNat i) (Int.ofNat m)) = false) (h1 : (AV.plainL lv) = true) (h2 : (AV.plainL lv2) = true) (h3 : (AV.plainL cs) = true) :
    CodeOK Try.prog (tyCx tys) 162 2 (roundOf (blockOf Try.f11 2)) { fr := frameOf 162 ([5, 13, 125, 126, 127].zip [AV.ptr (some (0, 0)), AV.slice (some (1, 0)) n none, AV.fsl la ll lv, AV.int IntKind.i64 (Int.ofNat m), AV.int IntKind.i64 (Int.ofNat i)]), ds := upTo 0, H := mkL [Blk.cells true 80 11 [AV.int IntKind.i64 s0, AV.int IntKind.i64 s1, AV.int IntKind.i64 s2, AV.int IntKind.i64 s3, AV.int IntKind.i64 s4, AV.fsl la2 ll2 lv2, AV.int IntKind.u32 s6, AV.int IntKind.u32 s7, AV.int IntKind.i64 s8, AV.int IntKind.u32 s9, AV.int IntKind.u32 s10], Blk.cells true 5 n2 cs] } (AX.exit 2) ⟨frameOf 162 ([5, 13, 125, 126, 127].zip [AV.ptr (some (0, 0)), AV.slice (some (1, 0)) n none, AV.fsl la ll lv, AV.int IntKind.i64 (Int.ofNat m), AV.int IntKind.i64 (Int.ofNat i)]), upTo 0, mkL [Blk.cells true 80 11 [AV.int IntKind.i64 s0, AV.int IntKind.i64 s1, AV.int IntKind.i64 s2, AV.int IntKind.i64 s3, AV.int IntKind.i64 s4, AV.fsl la2 ll2 lv2, AV.int IntKind.u32 s6, AV.int IntKind.u32 s7, AV.int IntKind.i64 s8, AV.int IntKind.u32 s9, AV.int IntKind.u32 s10], Blk.cells true 5 n2 cs]⟩ :=
  zrows_run (g := 30) (k := 11) (f := 30) (sl := [5, 13, 125, 126, 127]) (ks := [0, 1]) (rs := []) (ds := []) (cxZ cx_goes) all9a (q := (.z :: [])) (c := (Cnd.tst _ false :: [])) (cq := [true, true, AV.plainL lv, true, AV.plainL lv2, true, AV.plainL cs]) (by kernel_rfl) ⟨h0, trivial⟩ (holdsB ⟨rfl, rfl, h1, rfl, h2, rfl, h3, trivial⟩) (by kernel_rfl) (by kernel_rfl) (by kernel_rfl) (by kernel_rfl) (by kernel_rfl)
theorem ra_rB (s0 : Int) (s1 : Int) (s2 : Int) (s3 : Int) (s4 : Int) (la : Bool) (ll : Nat) (lv : List AV) (la2 : Bool) (ll2 : Nat) (lv2 : List AV) (s6 : Int) (s7 : Int) (s8 : Int) (s9 : Int) (s10 : Int) (n : Nat) (n2 : Nat) (m : Nat) (i : Nat) (cs : List AV) (h0 : (iltB (Int.ofNat i) (Int.ofNat m)) = true) (h1 : ((Int.ofNat i).toNat.succ.ble ll) = true) (h2 : (lv.length.beq (ll.mul 1)) = true) (h3 : (Nat.ble 1 (List.drop ((Int.ofNat i).toNat * 1) lv).length) = true) (h4 : (AV.isInt IntKind.i64 ((listAt (List.drop ((Int.ofNat i).toNat * 1) lv) 0).getD AV.undef)) = true) (h5 : (appRoom 1 n 1) = true) (h6 : (n2.beq (n * 1)) = true) (h7 : (AV.plainL lv) = true) (h8 : (AV.plainL lv2) = true) (h9 : (AV.plainL (cs ++ [AV.int IntKind.u8 (wrapA IntKind.u8 ((listAt (List.drop ((Int.ofNat i).toNat * 1) lv) 0).getD AV.undef).intOf)])) = true) :
    CodeOK Try.prog (tyCx tys) 162 2 (roundOf (blockOf Try.f11 2)) { fr := frameOf 162 ([5, 13, 125, 126, 127].zip [AV.ptr (some (0, 0)), AV.slice (some (2, 0)) n none, AV.fsl la ll lv, AV.int IntKind.i64 (Int.ofNat m), AV.int IntKind.i64 (Int.ofNat i)]), ds := upTo 0, H := mkL [Blk.cells true 80 11 [AV.int IntKind.i64 s0, AV.int IntKind.i64 s1, AV.int IntKind.i64 s2, AV.int IntKind.i64 s3, AV.int IntKind.i64 s4, AV.fsl la2 ll2 lv2, AV.int IntKind.u32 s6, AV.int IntKind.u32 s7, AV.int IntKind.i64 s8, AV.int IntKind.u32 s9, AV.int IntKind.u32 s10], Blk.dead, Blk.cells true 5 n2 cs] } (AX.normal) ⟨frameOf 162 ([5, 13, 125, 126, 127].zip [AV.ptr (some (0, 0)), AV.slice (some (2, 0)) (n + 1) none, AV.fsl la ll lv, AV.int IntKind.i64 (Int.ofNat m), AV.int IntKind.i64 (wrapA IntKind.i64 ((Int.ofNat i).add (Int.ofNat 1)))]), upTo 0, mkL [Blk.cells true 80 11 [AV.int IntKind.i64 s0, AV.int IntKind.i64 s1, AV.int IntKind.i64 s2, AV.int IntKind.i64 s3, AV.int IntKind.i64 s4, AV.fsl la2 ll2 lv2, AV.int IntKind.u32 s6, AV.int IntKind.u32 s7, AV.int IntKind.i64 s8, AV.int IntKind.u32 s9, AV.int IntKind.u32 s10], Blk.dead, Blk.cells true 5 (cs ++ [AV.int IntKind.u8 (wrapA IntKind.u8 ((listAt (List.drop ((Int.ofNat i).toNat * 1) lv) 0).getD AV.undef).intOf)]).length (cs ++ [AV.int IntKind.u8 (wrapA IntKind.u8 ((listAt (List.drop ((Int.ofNat i).toNat * 1) lv) 0).getD AV.undef).intOf)])]⟩ :=
  zrows_run (g := 30) (k := 11) (f := 30) (sl := [5, 13, 125, 126, 127]) (ks := [0, 1, 4]) (rs := []) (ds := []) (cxZ cx_goes) all9a (q := (.y :: (oc 1 (.y :: (.y :: (.y :: (.y :: (oc 5 (.y :: (.y :: (oc 1 []))))))))))) (c := (Cnd.tst _ true :: Cnd.tst _ true :: Cnd.tst _ true :: Cnd.tst _ true :: Cnd.tst _ true :: Cnd.tst _ true :: Cnd.tst _ true :: [])) (cq := [true, true, AV.plainL lv, true, AV.plainL lv2, true, AV.plainL (cs ++ [AV.int IntKind.u8 (wrapA IntKind.u8 ((listAt (List.drop ((Int.ofNat i).toNat * 1) lv) 0).getD AV.undef).intOf)])]) (by kernel_rfl) ⟨h0, h1, h2, h3, h4, h5, h6, trivial⟩ (holdsB ⟨rfl, rfl, h7, rfl, h8, rfl, h9, trivial⟩) (by kernel_rfl) (by kernel_rfl) (by kernel_rfl) (by kernel_rfl) (by kernel_rfl)
theorem ra_xB (s0 : Int) (s1 : Int) (s2 : Int) (s3 : Int) (s4 : Int) (la : Bool) (ll : Nat) (lv : List AV) (la2 : Bool) (ll2 : Nat) (lv2 : List AV) (s6 : Int) (s7 : Int) (s8 : Int) (s9 : Int) (s10 : Int) (n : Nat) (n2 : Nat) (m : Nat) (i : Nat) (cs : List AV) (h0 : (iltB (Int.ofNat i) (Int.ofNat m)) = false) (h1 : (AV.plainL lv) = true) (h2 : (AV.plainL lv2) = true) (h3 : (AV.plainL cs) = true) :
    CodeOK Try.prog (tyCx tys) 162 2 (roundOf (blockOf Try.f11 2)) { fr := frameOf 162 ([5, 13, 125, 126, 127].zip [AV.ptr (some (0, 0)), AV.slice (some (2, 0)) n none, AV.fsl la ll lv, AV.int IntKind.i64 (Int.ofNat m), AV.int IntKind.i64 (Int.ofNat i)]), ds := upTo 0, H := mkL [Blk.cells true 80 11 [AV.int IntKind.i64 s0, AV.int IntKind.i64 s1, AV.int IntKind.i64 s2, AV.int IntKind.i64 s3, AV.int IntKind.i64 s4, AV.fsl la2 ll2 lv2, AV.int IntKind.u32 s6, AV.int IntKind.u32 s7, AV.int IntKind.i64 s8, AV.int IntKind.u32 s9, AV.int IntKind.u32 s10], Blk.dead, Blk.cells true 5 n2 cs] } (AX.exit 2) ⟨frameOf 162 ([5, 13, 125, 126, 127].zip [AV.ptr (some (0, 0)), AV.slice (some (2, 0)) n none, AV.fsl la ll lv, AV.int IntKind.i64 (Int.ofNat m), AV.int IntKind.i64 (Int.ofNat i)]), upTo 0, mkL [Blk.cells true 80 11 [AV.int IntKind.i64 s0, AV.int IntKind.i64 s1, AV.int IntKind.i64 s2, AV.int IntKind.i64 s3, AV.int IntKind.i64 s4, AV.fsl la2 ll2 lv2, AV.int IntKind.u32 s6, AV.int IntKind.u32 s7, AV.int IntKind.i64 s8, AV.int IntKind.u32 s9, AV.int IntKind.u32 s10], Blk.dead, Blk.cells true 5 n2 cs]⟩ :=
  zrows_run (g := 30) (k := 11) (f := 30) (sl := [5, 13, 125, 126, 127]) (ks := [0, 1, 2]) (rs := []) (ds := []) (cxZ cx_goes) all9a (q := (.z :: [])) (c := (Cnd.tst _ false :: [])) (cq := [true, true, AV.plainL lv, true, AV.plainL lv2, true, AV.plainL cs]) (by kernel_rfl) ⟨h0, trivial⟩ (holdsB ⟨rfl, rfl, h1, rfl, h2, rfl, h3, trivial⟩) (by kernel_rfl) (by kernel_rfl) (by kernel_rfl) (by kernel_rfl) (by kernel_rfl)
theorem rb_rA (s0 : Int) (s1 : Int) (s2 : Int) (s3 : Int) (s4 : Int) (la : Bool) (ll : Nat) (lv : List AV) (la2 : Bool) (ll2 : Nat) (lv2 : List AV) (s6 : Int) (s7 : Int) (s8 : Int) (s9 : Int) (s10 : Int) (n : Nat) (n2 : Nat) (m : Nat) (i : Nat) (cs : List AV) (h0 : (iltB (Int.ofNat i) (Int.ofNat m)) = true) (h1 : ((Int.ofNat i).toNat.succ.ble ll) = true) (h2 : (lv.length.beq (ll.mul 1)) = true) (h3 : (Nat.ble 1 (List.drop ((Int.ofNat i).toNat * 1) lv).length) = true) (h4 : (AV.isInt IntKind.i64 ((listAt (List.drop ((Int.ofNat i).toNat * 1) lv) 0).getD AV.undef)) = true) (h5 : (appRoom 1 n 1) = true) (h6 : (n2.beq (n * 1)) = true) (h7 : (AV.plainL lv) = true) (h8 : (AV.plainL lv2) = true) (h9 : (AV.plainL (cs ++ [AV.int IntKind.u8 (wrapA IntKind.u8 ((listAt (List.drop ((Int.ofNat i).toNat * 1) lv) 0).getD AV.undef).intOf)])) = true) :
    CodeOK Try.prog (tyCx tys) 73 2 (roundOf (blockOf Try.f50 2)) { fr := frameOf 73 ([1, 3, 50, 51, 52].zip [AV.ptr (some (0, 0)), AV.slice (some (1, 0)) n none, AV.fsl la ll lv, AV.int IntKind.i64 (Int.ofNat m), AV.int IntKind.i64 (Int.ofNat i)]), ds := upTo 0, H := mkL [Blk.cells true 80 11 [AV.int IntKind.i64 s0, AV.int IntKind.i64 s1, AV.int IntKind.i64 s2, AV.int IntKind.i64 s3, AV.int IntKind.i64 s4, AV.fsl la2 ll2 lv2, AV.int IntKind.u32 s6, AV.int IntKind.u32 s7, AV.int IntKind.i64 s8, AV.int IntKind.u32 s9, AV.int IntKind.u32 s10], Blk.cells true 5 n2 cs] } (AX.normal) ⟨frameOf 73 ([1, 3, 50, 51, 52].zip [AV.ptr (some (0, 0)), AV.slice (some (2, 0)) (n + 1) none, AV.fsl la ll lv, AV.int IntKind.i64 (Int.ofNat m), AV.int IntKind.i64 (wrapA IntKind.i64 ((Int.ofNat i).add (Int.ofNat 1)))]), upTo 0, mkL [Blk.cells true 80 11 [AV.int IntKind.i64 s0, AV.int IntKind.i64 s1, AV.int IntKind.i64 s2, AV.int IntKind.i64 s3, AV.int IntKind.i64 s4, AV.fsl la2 ll2 lv2, AV.int IntKind.u32 s6, AV.int IntKind.u32 s7, AV.int IntKind.i64 s8, AV.int IntKind.u32 s9, AV.int IntKind.u32 s10], Blk.dead, Blk.cells true 5 (cs ++ [AV.int IntKind.u8 (wrapA IntKind.u8 ((listAt (List.drop ((Int.ofNat i).toNat * 1) lv) 0).getD AV.undef).intOf)]).length (cs ++ [AV.int IntKind.u8 (wrapA IntKind.u8 ((listAt (List.drop ((Int.ofNat i).toNat * 1) lv) 0).getD AV.undef).intOf)])]⟩ :=
  zrows_run (g := 30) (k := 50) (f := 30) (sl := [1, 3, 50, 51, 52]) (ks := [0, 1, 3]) (rs := []) (ds := []) (cxZ cx_goes) all9a (q := (.y :: (oc 1 (.y :: (.y :: (.y :: (.y :: (oc 5 (.y :: (.y :: (oc 1 []))))))))))) (c := (Cnd.tst _ true :: Cnd.tst _ true :: Cnd.tst _ true :: Cnd.tst _ true :: Cnd.tst _ true :: Cnd.tst _ true :: Cnd.tst _ true :: [])) (cq := [true, true, AV.plainL lv, true, AV.plainL lv2, true, AV.plainL (cs ++ [AV.int IntKind.u8 (wrapA IntKind.u8 ((listAt (List.drop ((Int.ofNat i).toNat * 1) lv) 0).getD AV.undef).intOf)])]) (by kernel_rfl) ⟨h0, h1, h2, h3, h4, h5, h6, trivial⟩ (holdsB ⟨rfl, rfl, h7, rfl, h8, rfl, h9, trivial⟩) (by kernel_rfl) (by kernel_rfl) (by kernel_rfl) (by kernel_rfl) (by kernel_rfl)
theorem rb_xA (s0 : Int) (s1 : Int) (s2 : Int) (s3 : Int) (s4 : Int) (la : Bool) (ll : Nat) (lv : List AV) (la2 : Bool) (ll2 : Nat) (lv2 : List AV) (s6 : Int) (s7 : Int) (s8 : Int) (s9 : Int) (s10 : Int) (n : Nat) (n2 : Nat) (m : Nat) (i : Nat) (cs : List AV) (h0 : (iltB (Int.ofNat i) (Int.ofNat m)) = false) (h1 : (AV.plainL lv) = true) (h2 : (AV.plainL lv2) = true) (h3 : (AV.plainL cs) = true) :
    CodeOK Try.prog (tyCx tys) 73 2 (roundOf (blockOf Try.f50 2)) { fr := frameOf 73 ([1, 3, 50, 51, 52].zip [AV.ptr (some (0, 0)), AV.slice (some (1, 0)) n none, AV.fsl la ll lv, AV.int IntKind.i64 (Int.ofNat m), AV.int IntKind.i64 (Int.ofNat i)]), ds := upTo 0, H := mkL [Blk.cells true 80 11 [AV.int IntKind.i64 s0, AV.int IntKind.i64 s1, AV.int IntKind.i64 s2, AV.int IntKind.i64 s3, AV.int IntKind.i64 s4, AV.fsl la2 ll2 lv2, AV.int IntKind.u32 s6, AV.int IntKind.u32 s7, AV.int IntKind.i64 s8, AV.int IntKind.u32 s9, AV.int IntKind.u32 s10], Blk.cells true 5 n2 cs] } (AX.exit 2) ⟨frameOf 73 ([1, 3, 50, 51, 52].zip [AV.ptr (some (0, 0)), AV.slice (some (1, 0)) n none, AV.fsl la ll lv, AV.int IntKind.i64 (Int.ofNat m), AV.int IntKind.i64 (Int.ofNat i)]), upTo 0, mkL [Blk.cells true 80 11 [AV.int IntKind.i64 s0, AV.int IntKind.i64 s1, AV.int IntKind.i64 s2, AV.int IntKind.i64 s3, AV.int IntKind.i64 s4, AV.fsl la2 ll2 lv2, AV.int IntKind.u32 s6, AV.int IntKind.u32 s7, AV.int IntKind.i64 s8, AV.int IntKind.u32 s9, AV.int IntKind.u32 s10], Blk.cells true 5 n2 cs]⟩ :=
  zrows_run (g := 30) (k := 50) (f := 30) (sl := [1, 3, 50, 51, 52]) (ks := [0, 1]) (rs := []) (ds := []) (cxZ cx_goes) all9a (q := (.z :: [])) (c := (Cnd.tst _ false :: [])) (cq := [true, true, AV.plainL lv, true, AV.plainL lv2, true, AV.plainL cs]) (by kernel_rfl) ⟨h0, trivial⟩ (holdsB ⟨rfl, rfl, h1, rfl, h2, rfl, h3, trivial⟩) (by kernel_rfl) (by kernel_rfl) (by kernel_rfl) (by kernel_rfl) (by kernel_rfl)
theorem rb_rB (s0 : Int) (s1 : Int) (s2 : Int) (s3 : Int) (s4 : Int) (la : Bool) (ll : Nat) (lv : List AV) (la2 : Bool) (ll2 : Nat) (lv2 : List AV) (s6 : Int) (s7 : Int) (s8 : Int) (s9 : Int) (s10 : Int) (n : Nat) (n2 : Nat) (m : Nat) (i : Nat) (cs : List AV) (h0 : (iltB (Int.ofNat i) (Int.ofNat m)) = true) (h1 : ((Int.ofNat i).toNat.succ.ble ll) = true) (h2 : (lv.length.beq (ll.mul 1)) = true) (h3 : (Nat.ble 1 (List.drop ((Int.ofNat i).toNat * 1) lv).length) = true) (h4 : (AV.isInt IntKind.i64 ((listAt (List.drop ((Int.ofNat i).toNat * 1) lv) 0).getD AV.undef)) = true) (h5 : (appRoom 1 n 1) = true) (h6 : (n2.beq (n * 1)) = true) (h7 : (AV.plainL lv) = true) (h8 : (AV.plainL lv2) = true) (h9 : (AV.plainL (cs ++ [AV.int IntKind.u8 (wrapA IntKind.u8 ((listAt (List.drop ((Int.ofNat i).toNat * 1) lv) 0).getD AV.undef).intOf)])) = true) :
    CodeOK Try.prog (tyCx tys) 73 2 (roundOf (blockOf Try.f50 2)) { fr := frameOf 73 ([1, 3, 50, 51, 52].zip [AV.ptr (some (0, 0)), AV.slice (some (2, 0)) n none, AV.fsl la ll lv, AV.int IntKind.i64 (Int.ofNat m), AV.int IntKind.i64 (Int.ofNat i)]), ds := upTo 0, H := mkL [Blk.cells true 80 11 [AV.int IntKind.i64 s0, AV.int IntKind.i64 s1, AV.int IntKind.i64 s2, AV.int IntKind.i64 s3, AV.int IntKind.i64 s4, AV.fsl la2 ll2 lv2, AV.int IntKind.u32 s6, AV.int IntKind.u32 s7, AV.int IntKind.i64 s8, AV.int IntKind.u32 s9, AV.int IntKind.u32 s10], Blk.dead, Blk.cells true 5 n2 cs] } (AX.normal) ⟨frameOf 73 ([1, 3, 50, 51, 52].zip [AV.ptr (some (0, 0)), AV.slice (some (2, 0)) (n + 1) none, AV.fsl la ll lv, AV.int IntKind.i64 (Int.ofNat m), AV.int IntKind.i64 (wrapA IntKind.i64 ((Int.ofNat i).add (Int.ofNat 1)))]), upTo 0, mkL [Blk.cells true 80 11 [AV.int IntKind.i64 s0, AV.int IntKind.i64 s1, AV.int IntKind.i64 s2, AV.int IntKind.i64 s3, AV.int IntKind.i64 s4, AV.fsl la2 ll2 lv2, AV.int IntKind.u32 s6, AV.int IntKind.u32 s7, AV.int IntKind.i64 s8, AV.int IntKind.u32 s9, AV.int IntKind.u32 s10], Blk.dead, Blk.cells true 5 (cs ++ [AV.int IntKind.u8 (wrapA IntKind.u8 ((listAt (List.drop ((Int.ofNat i).toNat * 1) lv) 0).getD AV.undef).intOf)]).length (cs ++ [AV.int IntKind.u8 (wrapA IntKind.u8 ((listAt (List.drop ((Int.ofNat i).toNat * 1) lv) 0).getD AV.undef).intOf)])]⟩ :=
  zrows_run (g := 30) (k := 50) (f := 30) (sl := [1, 3, 50, 51, 52]) (ks := [0, 1, 4]) (rs := []) (ds := []) (cxZ cx_goes) all9a (q := (.y :: (oc 1 (.y :: (.y :: (.y :: (.y :: (oc 5 (.y :: (.y :: (oc 1 []))))))))))) (c := (Cnd.tst _ true :: Cnd.tst _ true :: Cnd.tst _ true :: Cnd.tst _ true :: Cnd.tst _ true :: Cnd.tst _ true :: Cnd.tst _ true :: [])) (cq := [true, true, AV.plainL lv, true, AV.plainL lv2, true, AV.plainL (cs ++ [AV.int IntKind.u8 (wrapA IntKind.u8 ((listAt (List.drop ((Int.ofNat i).toNat * 1) lv) 0).getD AV.undef).intOf)])]) (by kernel_rfl) ⟨h0, h1, h2, h3, h4, h5, h6, trivial⟩ (holdsB ⟨rfl, rfl, h7, rfl, h8, rfl, h9, trivial⟩) (by kernel_rfl) (by kernel_rfl) (by kernel_rfl) (by kernel_rfl) (by kernel_rfl)
theorem rb_xB (s0 : Int) (s1 : Int) (s2 : Int) (s3 : Int) (s4 : Int) (la : Bool) (ll : Nat) (lv : List AV) (la2 : Bool) (ll2 : Nat) (lv2 : List AV) (s6 : Int) (s7 : Int) (s8 : Int) (s9 : Int) (s10 : Int) (n : Nat) (n2 : Nat) (m : Nat) (i : Nat) (cs : List AV) (h0 : (iltB (Int.ofNat i) (Int.ofNat m)) = false) (h1 : (AV.plainL lv) = true) (h2 : (AV.plainL lv2) = true) (h3 : (AV.plainL cs) = true) :
    CodeOK Try.prog (tyCx tys) 73 2 (roundOf (blockOf Try.f50 2)) { fr := frameOf 73 ([1, 3, 50, 51, 52].zip [AV.ptr (some (0, 0)), AV.slice (some (2, 0)) n none, AV.fsl la ll lv, AV.int IntKind.i64 (Int.ofNat m), AV.int IntKind.i64 (Int.ofNat i)]), ds := upTo 0, H := mkL [Blk.cells true 80 11 [AV.int IntKind.i64 s0, AV.int IntKind.i64 s1, AV.int IntKind.i64 s2, AV.int IntKind.i64 s3, AV.int IntKind.i64 s4, AV.fsl la2 ll2 lv2, AV.int IntKind.u32 s6, AV.int IntKind.u32 s7, AV.int IntKind.i64 s8, AV.int IntKind.u32 s9, AV.int IntKind.u32 s10], Blk.dead, Blk.cells true 5 n2 cs] } (AX.exit 2) ⟨frameOf 73 ([1, 3, 50, 51, 52].zip [AV.ptr (some (0, 0)), AV.slice (some (2, 0)) n none, AV.fsl la ll lv, AV.int IntKind.i64 (Int.ofNat m), AV.int IntKind.i64 (Int.ofNat i)]), upTo 0, mkL [Blk.cells true 80 11 [AV.int IntKind.i64 s0, AV.int IntKind.i64 s1, AV.int IntKind.i64 s2, AV.int IntKind.i64 s3, AV.int IntKind.i64 s4, AV.fsl la2 ll2 lv2, AV.int IntKind.u32 s6, AV.int IntKind.u32 s7, AV.int IntKind.i64 s8, AV.int IntKind.u32 s9, AV.int IntKind.u32 s10], Blk.dead, Blk.cells true 5 n2 cs]⟩ :=
  zrows_run (g := 30) (k := 50) (f := 30) (sl := [1, 3, 50, 51, 52]) (ks := [0, 1, 2]) (rs := []) (ds := []) (cxZ cx_goes) all9a (q := (.z :: [])) (c := (Cnd.tst _ false :: [])) (cq := [true, true, AV.plainL lv, true, AV.plainL lv2, true, AV.plainL cs]) (by kernel_rfl) ⟨h0, trivial⟩ (holdsB ⟨rfl, rfl, h1, rfl, h2, rfl, h3, trivial⟩) (by kernel_rfl) (by kernel_rfl) (by kernel_rfl) (by kernel_rfl) (by kernel_rfl)
def raT : List AV × List Blk → Bool := fun x => match x.1 with
  | [_, _, .fsl _ l _, _, _] => Nat.beq l 0
  | _ => false
def ra0 : List AV × List Blk → Option (List Bool × AX × List AV × List Blk) := fun x => match x with
  | ([.ptr (some (0, 0)), .slice (some (1, 0)) n none, .fsl la ll lv, .int .i64 (.ofNat m), .int .i64 (.ofNat i)], [.cells true 80 11 [.int .i64 s0, .int .i64 s1, .int .i64 s2, .int .i64 s3, .int .i64 s4, .fsl la2 ll2 lv2, .int .u32 s6, .int .u32 s7, .int .i64 s8, .int .u32 s9, .int .u32 s10], .cells true 5 n' cs]) =>
    some ([Nat.beq m 0, Nat.beq i 0, AV.plainL lv, AV.plainL lv2, AV.plainL cs], .normal, [.ptr (some (0, 0)), .slice (some (1, 0)) n none, .fsl la ll lv, .int .i64 (Int.ofNat 0), .int .i64 (Int.ofNat 0)], [.cells true 80 11 [.int .i64 s0, .int .i64 s1, .int .i64 s2, .int .i64 s3, .int .i64 s4, .fsl la2 ll2 lv2, .int .u32 s6, .int .u32 s7, .int .i64 s8, .int .u32 s9, .int .u32 s10], .cells true 5 n' cs])
  | _ => none
def ra1 : List AV × List Blk → Option (List Bool × AX × List AV × List Blk) := fun x => match x with
  | ([.ptr (some (0, 0)), .slice (some (1, 0)) n none, .fsl la ll lv, .int .i64 (.ofNat m), .int .i64 (.ofNat i)], [.cells true 80 11 [.int .i64 s0, .int .i64 s1, .int .i64 s2, .int .i64 s3, .int .i64 s4, .fsl la2 ll2 lv2, .int .u32 s6, .int .u32 s7, .int .i64 s8, .int .u32 s9, .int .u32 s10], .cells true 5 n' cs]) =>
    some ([u8L cs, Nat.beq cs.length n, Nat.beq n' n, isZ lv, Nat.beq lv.length ll, Nat.beq m ll, Nat.beq i 0, Nat.ble 1 ll, Nat.ble ll 20, Nat.ble n 1000, AV.plainL lv2], .normal,
      [.ptr (some (0, 0)), .slice (some (2, 0)) (n + ll) none, .fsl la ll lv, .int .i64 (Int.ofNat ll), .int .i64 (Int.ofNat ll)], [.cells true 80 11 [.int .i64 s0, .int .i64 s1, .int .i64 s2, .int .i64 s3, .int .i64 s4, .fsl la2 ll2 lv2, .int .u32 s6, .int .u32 s7, .int .i64 s8, .int .u32 s9, .int .u32 s10], .dead, .cells true 5 (n + ll) (kept (ofBytes (bytesL cs ++ livB (intsZ lv))))])
  | _ => none
def raL : ZLT := ⟨162, blockOf Try.f11 2, [5, 13, 125, 126, 127], 0, [], .node raT (.leaf ra0) (.leaf ra1)⟩
def raE (s0 s1 s2 s3 s4 : Int) (la2 : Bool) (ll2 : Nat) (lv2 : List AV) (s6 s7 s8 s9 s10 : Int) (la : Bool) (w : List UInt8) (zs : List Int) (i : Nat) : ZSt := match i with
  | 0 => ([.ptr (some (0, 0)), .slice (some (1, 0)) w.length none, .fsl la zs.length (encZ zs), .int .i64 (Int.ofNat zs.length), .int .i64 (Int.ofNat 0)], [.cells true 80 11 [.int .i64 s0, .int .i64 s1, .int .i64 s2, .int .i64 s3, .int .i64 s4, .fsl la2 ll2 lv2, .int .u32 s6, .int .u32 s7, .int .i64 s8, .int .u32 s9, .int .u32 s10], .cells true 5 w.length (ofBytes w)])
  | j + 1 => ([.ptr (some (0, 0)), .slice (some (2, 0)) (w.length + (j + 1)) none, .fsl la zs.length (encZ zs), .int .i64 (Int.ofNat zs.length), .int .i64 (Int.ofNat (j + 1))], [.cells true 80 11 [.int .i64 s0, .int .i64 s1, .int .i64 s2, .int .i64 s3, .int .i64 s4, .fsl la2 ll2 lv2, .int .u32 s6, .int .u32 s7, .int .i64 s8, .int .u32 s9, .int .u32 s10], .dead, .cells true 5 (w.length + (j + 1)) (ofBytes (w ++ livB (zs.take (j + 1))))])
theorem raE_some (s0 s1 s2 s3 s4 : Int) (la2 : Bool) (ll2 : Nat) (lv2 : List AV) (s6 s7 s8 s9 s10 : Int) (la : Bool) (w : List UInt8) (zs : List Int) (i : Nat) (h : i ≠ 0) : raE s0 s1 s2 s3 s4 la2 ll2 lv2 s6 s7 s8 s9 s10 la w zs i =
    ([.ptr (some (0, 0)), .slice (some (2, 0)) (w.length + i) none, .fsl la zs.length (encZ zs), .int .i64 (Int.ofNat zs.length), .int .i64 (Int.ofNat i)], [.cells true 80 11 [.int .i64 s0, .int .i64 s1, .int .i64 s2, .int .i64 s3, .int .i64 s4, .fsl la2 ll2 lv2, .int .u32 s6, .int .u32 s7, .int .i64 s8, .int .u32 s9, .int .u32 s10], .dead, .cells true 5 (w.length + i) (ofBytes (w ++ livB (zs.take i)))]) := by
  cases i with
  | zero => exact absurd rfl h
  | succ j => rfl
theorem raL_ok : raL.OK Try.prog (tyCx tys) (flOf tys) 2 := by
  refine ⟨?_, ?_⟩
  · intro vs bs conds X vs' bs' h hc hin
    have h : ra0 (vs, bs) = some (conds, X, vs', bs') := h
    unfold ra0 at h
    split at h
    · rename_i n la ll lv m i s0 s1 s2 s3 s4 la2 ll2 lv2 s6 s7 s8 s9 s10 n' cs he
      injection he with he1 he2
      subst he1; subst he2
      injection h with h; injection h with e1 h; injection h with e2 h; injection h with e3 e4
      subst e1; subst e2; subst e3; subst e4
      simp only [allTrue_cons] at hc
      obtain ⟨c1, c2, p1, p2, p3, _⟩ := hc
      have c1 := eq_of_beq' c1
      have c2 := eq_of_beq' c2
      subst c1; subst c2
      have k0 : iltB (Int.ofNat 0) (Int.ofNat 0) = false := rfl
      have key := CodeOK.loop (P := Try.prog) (cx := tyCx tys) (nn := 162) (n0 := 2) (b := roundOf (blockOf Try.f11 2)) (fun _ : Unit => (raL.at ra0).st ([.ptr (some (0, 0)), .slice (some (1, 0)) n none, .fsl la ll lv, .int .i64 (Int.ofNat 0), .int .i64 (Int.ofNat 0)], [.cells true 80 11 [.int .i64 s0, .int .i64 s1, .int .i64 s2, .int .i64 s3, .int .i64 s4, .fsl la2 ll2 lv2, .int .u32 s6, .int .u32 s7, .int .i64 s8, .int .u32 s9, .int .u32 s10], .cells true 5 n' cs]))
        (fun _ => (.exit 2, (raL.at ra0).st ([.ptr (some (0, 0)), .slice (some (1, 0)) n none, .fsl la ll lv, .int .i64 (Int.ofNat 0), .int .i64 (Int.ofNat 0)], [.cells true 80 11 [.int .i64 s0, .int .i64 s1, .int .i64 s2, .int .i64 s3, .int .i64 s4, .fsl la2 ll2 lv2, .int .u32 s6, .int .u32 s7, .int .i64 s8, .int .u32 s9, .int .u32 s10], .cells true 5 n' cs]))) (fun _ => 0) (fun _ => .inr ⟨ra_xA s0 s1 s2 s3 s4 la ll lv la2 ll2 lv2 s6 s7 s8 s9 s10 n n' 0 0 cs k0 p1 p2 p3, by simp⟩) ()
      exact CodeOK.block 2 key
    · cases h
  · intro vs bs conds X vs' bs' h hc hin
    have h : ra1 (vs, bs) = some (conds, X, vs', bs') := h
    unfold ra1 at h
    split at h
    · rename_i n la ll lv m i s0 s1 s2 s3 s4 la2 ll2 lv2 s6 s7 s8 s9 s10 n' cs he
      injection he with he1 he2
      subst he1; subst he2
      injection h with h; injection h with e1 h; injection h with e2 h; injection h with e3 e4
      subst e1; subst e2; subst e3; subst e4
      simp only [allTrue_cons] at hc
      obtain ⟨c1, c2, c3, c4, c5, c6, c7, c8, c9, c10, p2, _⟩ := hc
      obtain ⟨w, rfl⟩ := u8L_iff.1 c1
      obtain ⟨zs, rfl⟩ := isZ_iff.1 c4
      have c2 := eq_of_beq' c2
      have c3 := eq_of_beq' c3
      have c5 := eq_of_beq' c5
      have c6 := eq_of_beq' c6
      have c7 := eq_of_beq' c7
      rw [ofBytes_length] at c2
      rw [encZ_length] at c5
      subst c3; subst c6; subst c7; subst c2; subst c5
      have c8 := Nat.le_of_ble_eq_true c8
      have c9 := Nat.le_of_ble_eq_true c9
      have c10 := Nat.le_of_ble_eq_true c10
      rw [kept_eq, bytesL_ofBytes, intsZ_encZ]
      have key := CodeOK.loop (P := Try.prog) (cx := tyCx tys) (nn := 162) (n0 := 2) (b := roundOf (blockOf Try.f11 2)) (fun q : {i : Nat // i ≤ zs.length} => (raL.at ra1).st (raE s0 s1 s2 s3 s4 la2 ll2 lv2 s6 s7 s8 s9 s10 la w zs q.1))
        (fun q => (.exit 2, (raL.at ra1).st (raE s0 s1 s2 s3 s4 la2 ll2 lv2 s6 s7 s8 s9 s10 la w zs zs.length))) (fun q => zs.length - q.1) (fun q => by
        obtain ⟨i, hi⟩ := q
        simp only
        by_cases hlt : i < zs.length
        · refine .inl ⟨⟨i + 1, hlt⟩, ?_, trivial, by simp only; omega⟩
          obtain ⟨x, hx⟩ : ∃ x, zs[i]? = some x := ⟨_, List.getElem?_eq_getElem hlt⟩
          have e1 : (listAt (List.drop i (encZ zs)) 0).getD AV.undef = .int .i64 x := by
            have := encZ_at zs i x hx
            rwa [show (Int.ofNat i).toNat * 1 = i from Nat.mul_one i] at this
          have k0 : iltB (Int.ofNat i) (Int.ofNat zs.length) = true := by rw [iltB_eq]; exact decide_eq_true (by show (i : Int) < (zs.length : Int); omega)
          have hw : wrapA .i64 ((Int.ofNat i).add (Int.ofNat 1)) = Int.ofNat (i + 1) := wrapA_nat .i64 (i + 1) (by show _ < 9223372036854775808; omega)
          have z0 : (Int.ofNat i).toNat = i := rfl
          have tk : zs.take (i + 1) = zs.take i ++ [x] := by rw [List.take_add_one, hx]; rfl
          have e2 : ofBytes (w ++ livB (zs.take i)) ++ [AV.int IntKind.u8 (wrapA IntKind.u8 x)] = ofBytes (w ++ livB (zs.take (i + 1))) := by
            rw [tk, u8_wrap]
            have : [AV.int IntKind.u8 ((UInt8.ofNat (wrapA IntKind.u8 x).toNat).toNat : Int)] = ofBytes [UInt8.ofNat (wrapA IntKind.u8 x).toNat] := rfl
            rw [this, ← ofBytes_append, List.append_assoc]
            congr 2
            unfold livB; rw [List.map_append]; rfl
          have e3 : (ofBytes (w ++ livB (zs.take (i + 1)))).length = w.length + (i + 1) := by rw [ofBytes_length, List.length_append]; unfold livB; rw [List.length_map, List.length_take]; omega
          have e4 := ofBytes_plainL (w ++ livB (zs.take (i + 1)))
          have e5 : appRoom 1 (w.length + i) 1 = true := room_of (by omega) (by omega)
          have e6 := encZ_plainL zs
          cases i with
          | zero =>
            have e2 : ofBytes w ++ [AV.int IntKind.u8 (wrapA IntKind.u8 x)] = ofBytes (w ++ livB (zs.take (0 + 1))) := by
              have := e2
              simpa [livB] using this
            have e5 : appRoom 1 w.length 1 = true := e5
            have key := ra_rA s0 s1 s2 s3 s4 la zs.length (encZ zs) la2 ll2 lv2 s6 s7 s8 s9 s10 w.length w.length zs.length 0 (ofBytes w)
            iterate 10
              replace key := key (by
                (try simp only [AV.intOf, p2, e1, Nat.zero_add, Nat.mul_one, z0, hw, k0, e2, e3, e4, e5, e6])
                first
                  | done
                  | with_reducible rfl
                  | with_reducible exact encZ_plainL _
                  | with_reducible exact ofBytes_plainL _
                  | (simp [e1, nbeq, nble, encZ_length, AV.isInt]; done)
                  | (simp [e1, nbeq, nble, encZ_length, AV.isInt]; omega))
            simp only [AV.intOf, p2, e1, Nat.zero_add, Nat.mul_one, z0, hw, k0, e2, e3, e4, e5, e6] at key
            exact key
          | succ j =>
            have key := ra_rB s0 s1 s2 s3 s4 la zs.length (encZ zs) la2 ll2 lv2 s6 s7 s8 s9 s10 (w.length + (j + 1)) (w.length + (j + 1)) zs.length (j + 1) (ofBytes (w ++ livB (zs.take (j + 1))))
            iterate 10
              replace key := key (by
                (try simp only [AV.intOf, p2, e1, Nat.zero_add, Nat.mul_one, z0, hw, k0, e2, e3, e4, e5, e6])
                first
                  | done
                  | with_reducible rfl
                  | with_reducible exact encZ_plainL _
                  | with_reducible exact ofBytes_plainL _
                  | (simp [e1, nbeq, nble, encZ_length, AV.isInt]; done)
                  | (simp [e1, nbeq, nble, encZ_length, AV.isInt]; omega))
            simp only [AV.intOf, p2, e1, Nat.zero_add, Nat.mul_one, z0, hw, k0, e2, e3, e4, e5, e6] at key
            exact key
        · have hi : i = zs.length := by omega
          subst hi
          refine .inr ⟨?_, by simp⟩
          have k0 : iltB (Int.ofNat zs.length) (Int.ofNat zs.length) = false := by rw [iltB_eq]; exact decide_eq_false (by show ¬ (zs.length : Int) < (zs.length : Int); omega)
          obtain ⟨j, hj⟩ : ∃ j, zs.length = j + 1 := ⟨zs.length - 1, by omega⟩
          have e : raE s0 s1 s2 s3 s4 la2 ll2 lv2 s6 s7 s8 s9 s10 la w zs zs.length = ([.ptr (some (0, 0)), .slice (some (2, 0)) (w.length + zs.length) none, .fsl la zs.length (encZ zs), .int .i64 (Int.ofNat zs.length), .int .i64 (Int.ofNat zs.length)], [.cells true 80 11 [.int .i64 s0, .int .i64 s1, .int .i64 s2, .int .i64 s3, .int .i64 s4, .fsl la2 ll2 lv2, .int .u32 s6, .int .u32 s7, .int .i64 s8, .int .u32 s9, .int .u32 s10], .dead, .cells true 5 (w.length + zs.length) (ofBytes (w ++ livB (zs.take zs.length)))]) := by
            exact raE_some _ _ _ _ _ _ _ _ _ _ _ _ _ _ w zs zs.length (by omega)
          rw [e]
          exact ra_xB s0 s1 s2 s3 s4 la zs.length (encZ zs) la2 ll2 lv2 s6 s7 s8 s9 s10 (w.length + zs.length) (w.length + zs.length) zs.length zs.length (ofBytes (w ++ livB (zs.take zs.length))) k0 (encZ_plainL _) p2 (ofBytes_plainL _)) ⟨0, Nat.zero_le _⟩
      have e : raE s0 s1 s2 s3 s4 la2 ll2 lv2 s6 s7 s8 s9 s10 la w zs zs.length = ([.ptr (some (0, 0)), .slice (some (2, 0)) (w.length + zs.length) none, .fsl la zs.length (encZ zs), .int .i64 (Int.ofNat zs.length), .int .i64 (Int.ofNat zs.length)], [.cells true 80 11 [.int .i64 s0, .int .i64 s1, .int .i64 s2, .int .i64 s3, .int .i64 s4, .fsl la2 ll2 lv2, .int .u32 s6, .int .u32 s7, .int .i64 s8, .int .u32 s9, .int .u32 s10], .dead, .cells true 5 (w.length + zs.length) (ofBytes (w ++ livB zs))]) := by
        have := raE_some s0 s1 s2 s3 s4 la2 ll2 lv2 s6 s7 s8 s9 s10 la w zs zs.length (by omega)
        rwa [List.take_length] at this
      simp only [e] at key
      exact CodeOK.block 2 key
    · cases h
def rbT : List AV × List Blk → Bool := fun x => match x.1 with
  | [_, _, .fsl _ l _, _, _] => Nat.beq l 0
  | _ => false
def rb0 : List AV × List Blk → Option (List Bool × AX × List AV × List Blk) := fun x => match x with
  | ([.ptr (some (0, 0)), .slice (some (1, 0)) n none, .fsl la ll lv, .int .i64 (.ofNat m), .int .i64 (.ofNat i)], [.cells true 80 11 [.int .i64 s0, .int .i64 s1, .int .i64 s2, .int .i64 s3, .int .i64 s4, .fsl la2 ll2 lv2, .int .u32 s6, .int .u32 s7, .int .i64 s8, .int .u32 s9, .int .u32 s10], .cells true 5 n' cs]) =>
    some ([Nat.beq m 0, Nat.beq i 0, AV.plainL lv, AV.plainL lv2, AV.plainL cs], .normal, [.ptr (some (0, 0)), .slice (some (1, 0)) n none, .fsl la ll lv, .int .i64 (Int.ofNat 0), .int .i64 (Int.ofNat 0)], [.cells true 80 11 [.int .i64 s0, .int .i64 s1, .int .i64 s2, .int .i64 s3, .int .i64 s4, .fsl la2 ll2 lv2, .int .u32 s6, .int .u32 s7, .int .i64 s8, .int .u32 s9, .int .u32 s10], .cells true 5 n' cs])
  | _ => none
def rb1 : List AV × List Blk → Option (List Bool × AX × List AV × List Blk) := fun x => match x with
  | ([.ptr (some (0, 0)), .slice (some (1, 0)) n none, .fsl la ll lv, .int .i64 (.ofNat m), .int .i64 (.ofNat i)], [.cells true 80 11 [.int .i64 s0, .int .i64 s1, .int .i64 s2, .int .i64 s3, .int .i64 s4, .fsl la2 ll2 lv2, .int .u32 s6, .int .u32 s7, .int .i64 s8, .int .u32 s9, .int .u32 s10], .cells true 5 n' cs]) =>
    some ([u8L cs, Nat.beq cs.length n, Nat.beq n' n, isZ lv, Nat.beq lv.length ll, Nat.beq m ll, Nat.beq i 0, Nat.ble 1 ll, Nat.ble ll 20, Nat.ble n 1000, AV.plainL lv2], .normal,
      [.ptr (some (0, 0)), .slice (some (2, 0)) (n + ll) none, .fsl la ll lv, .int .i64 (Int.ofNat ll), .int .i64 (Int.ofNat ll)], [.cells true 80 11 [.int .i64 s0, .int .i64 s1, .int .i64 s2, .int .i64 s3, .int .i64 s4, .fsl la2 ll2 lv2, .int .u32 s6, .int .u32 s7, .int .i64 s8, .int .u32 s9, .int .u32 s10], .dead, .cells true 5 (n + ll) (kept (ofBytes (bytesL cs ++ livB (intsZ lv))))])
  | _ => none
def rbL : ZLT := ⟨73, blockOf Try.f50 2, [1, 3, 50, 51, 52], 0, [], .node rbT (.leaf rb0) (.leaf rb1)⟩
def rbE (s0 s1 s2 s3 s4 : Int) (la2 : Bool) (ll2 : Nat) (lv2 : List AV) (s6 s7 s8 s9 s10 : Int) (la : Bool) (w : List UInt8) (zs : List Int) (i : Nat) : ZSt := match i with
  | 0 => ([.ptr (some (0, 0)), .slice (some (1, 0)) w.length none, .fsl la zs.length (encZ zs), .int .i64 (Int.ofNat zs.length), .int .i64 (Int.ofNat 0)], [.cells true 80 11 [.int .i64 s0, .int .i64 s1, .int .i64 s2, .int .i64 s3, .int .i64 s4, .fsl la2 ll2 lv2, .int .u32 s6, .int .u32 s7, .int .i64 s8, .int .u32 s9, .int .u32 s10], .cells true 5 w.length (ofBytes w)])
  | j + 1 => ([.ptr (some (0, 0)), .slice (some (2, 0)) (w.length + (j + 1)) none, .fsl la zs.length (encZ zs), .int .i64 (Int.ofNat zs.length), .int .i64 (Int.ofNat (j + 1))], [.cells true 80 11 [.int .i64 s0, .int .i64 s1, .int .i64 s2, .int .i64 s3, .int .i64 s4, .fsl la2 ll2 lv2, .int .u32 s6, .int .u32 s7, .int .i64 s8, .int .u32 s9, .int .u32 s10], .dead, .cells true 5 (w.length + (j + 1)) (ofBytes (w ++ livB (zs.take (j + 1))))])
theorem rbE_some (s0 s1 s2 s3 s4 : Int) (la2 : Bool) (ll2 : Nat) (lv2 : List AV) (s6 s7 s8 s9 s10 : Int) (la : Bool) (w : List UInt8) (zs : List Int) (i : Nat) (h : i ≠ 0) : rbE s0 s1 s2 s3 s4 la2 ll2 lv2 s6 s7 s8 s9 s10 la w zs i =
    ([.ptr (some (0, 0)), .slice (some (2, 0)) (w.length + i) none, .fsl la zs.length (encZ zs), .int .i64 (Int.ofNat zs.length), .int .i64 (Int.ofNat i)], [.cells true 80 11 [.int .i64 s0, .int .i64 s1, .int .i64 s2, .int .i64 s3, .int .i64 s4, .fsl la2 ll2 lv2, .int .u32 s6, .int .u32 s7, .int .i64 s8, .int .u32 s9, .int .u32 s10], .dead, .cells true 5 (w.length + i) (ofBytes (w ++ livB (zs.take i)))]) := by
  cases i with
  | zero => exact absurd rfl h
  | succ j => rfl
theorem rbL_ok : rbL.OK Try.prog (tyCx tys) (flOf tys) 2 := by
  refine ⟨?_, ?_⟩
  · intro vs bs conds X vs' bs' h hc hin
    have h : rb0 (vs, bs) = some (conds, X, vs', bs') := h
    unfold rb0 at h
    split at h
    · rename_i n la ll lv m i s0 s1 s2 s3 s4 la2 ll2 lv2 s6 s7 s8 s9 s10 n' cs he
      injection he with he1 he2
      subst he1; subst he2
      injection h with h; injection h with e1 h; injection h with e2 h; injection h with e3 e4
      subst e1; subst e2; subst e3; subst e4
      simp only [allTrue_cons] at hc
      obtain ⟨c1, c2, p1, p2, p3, _⟩ := hc
      have c1 := eq_of_beq' c1
      have c2 := eq_of_beq' c2
      subst c1; subst c2
      have k0 : iltB (Int.ofNat 0) (Int.ofNat 0) = false := rfl
      have key := CodeOK.loop (P := Try.prog) (cx := tyCx tys) (nn := 73) (n0 := 2) (b := roundOf (blockOf Try.f50 2)) (fun _ : Unit => (rbL.at rb0).st ([.ptr (some (0, 0)), .slice (some (1, 0)) n none, .fsl la ll lv, .int .i64 (Int.ofNat 0), .int .i64 (Int.ofNat 0)], [.cells true 80 11 [.int .i64 s0, .int .i64 s1, .int .i64 s2, .int .i64 s3, .int .i64 s4, .fsl la2 ll2 lv2, .int .u32 s6, .int .u32 s7, .int .i64 s8, .int .u32 s9, .int .u32 s10], .cells true 5 n' cs]))
        (fun _ => (.exit 2, (rbL.at rb0).st ([.ptr (some (0, 0)), .slice (some (1, 0)) n none, .fsl la ll lv, .int .i64 (Int.ofNat 0), .int .i64 (Int.ofNat 0)], [.cells true 80 11 [.int .i64 s0, .int .i64 s1, .int .i64 s2, .int .i64 s3, .int .i64 s4, .fsl la2 ll2 lv2, .int .u32 s6, .int .u32 s7, .int .i64 s8, .int .u32 s9, .int .u32 s10], .cells true 5 n' cs]))) (fun _ => 0) (fun _ => .inr ⟨rb_xA s0 s1 s2 s3 s4 la ll lv la2 ll2 lv2 s6 s7 s8 s9 s10 n n' 0 0 cs k0 p1 p2 p3, by simp⟩) ()
      exact CodeOK.block 2 key
    · cases h
  · intro vs bs conds X vs' bs' h hc hin
    have h : rb1 (vs, bs) = some (conds, X, vs', bs') := h
    unfold rb1 at h
    split at h
    · rename_i n la ll lv m i s0 s1 s2 s3 s4 la2 ll2 lv2 s6 s7 s8 s9 s10 n' cs he
      injection he with he1 he2
      subst he1; subst he2
      injection h with h; injection h with e1 h; injection h with e2 h; injection h with e3 e4
      subst e1; subst e2; subst e3; subst e4
      simp only [allTrue_cons] at hc
      obtain ⟨c1, c2, c3, c4, c5, c6, c7, c8, c9, c10, p2, _⟩ := hc
      obtain ⟨w, rfl⟩ := u8L_iff.1 c1
      obtain ⟨zs, rfl⟩ := isZ_iff.1 c4
      have c2 := eq_of_beq' c2
      have c3 := eq_of_beq' c3
      have c5 := eq_of_beq' c5
      have c6 := eq_of_beq' c6
      have c7 := eq_of_beq' c7
      rw [ofBytes_length] at c2
      rw [encZ_length] at c5
      subst c3; subst c6; subst c7; subst c2; subst c5
      have c8 := Nat.le_of_ble_eq_true c8
      have c9 := Nat.le_of_ble_eq_true c9
      have c10 := Nat.le_of_ble_eq_true c10
      rw [kept_eq, bytesL_ofBytes, intsZ_encZ]
      have key := CodeOK.loop (P := Try.prog) (cx := tyCx tys) (nn := 73) (n0 := 2) (b := roundOf (blockOf Try.f50 2)) (fun q : {i : Nat // i ≤ zs.length} => (rbL.at rb1).st (rbE s0 s1 s2 s3 s4 la2 ll2 lv2 s6 s7 s8 s9 s10 la w zs q.1))
        (fun q => (.exit 2, (rbL.at rb1).st (rbE s0 s1 s2 s3 s4 la2 ll2 lv2 s6 s7 s8 s9 s10 la w zs zs.length))) (fun q => zs.length - q.1) (fun q => by
        obtain ⟨i, hi⟩ := q
        simp only
        by_cases hlt : i < zs.length
        · refine .inl ⟨⟨i + 1, hlt⟩, ?_, trivial, by simp only; omega⟩
          obtain ⟨x, hx⟩ : ∃ x, zs[i]? = some x := ⟨_, List.getElem?_eq_getElem hlt⟩
          have e1 : (listAt (List.drop i (encZ zs)) 0).getD AV.undef = .int .i64 x := by
            have := encZ_at zs i x hx
            rwa [show (Int.ofNat i).toNat * 1 = i from Nat.mul_one i] at this
          have k0 : iltB (Int.ofNat i) (Int.ofNat zs.length) = true := by rw [iltB_eq]; exact decide_eq_true (by show (i : Int) < (zs.length : Int); omega)
          have hw : wrapA .i64 ((Int.ofNat i).add (Int.ofNat 1)) = Int.ofNat (i + 1) := wrapA_nat .i64 (i + 1) (by show _ < 9223372036854775808; omega)
          have z0 : (Int.ofNat i).toNat = i := rfl
          have tk : zs.take (i + 1) = zs.take i ++ [x] := by rw [List.take_add_one, hx]; rfl
          have e2 : ofBytes (w ++ livB (zs.take i)) ++ [AV.int IntKind.u8 (wrapA IntKind.u8 x)] = ofBytes (w ++ livB (zs.take (i + 1))) := by
            rw [tk, u8_wrap]
            have : [AV.int IntKind.u8 ((UInt8.ofNat (wrapA IntKind.u8 x).toNat).toNat : Int)] = ofBytes [UInt8.ofNat (wrapA IntKind.u8 x).toNat] := rfl
            rw [this, ← ofBytes_append, List.append_assoc]
            congr 2
            unfold livB; rw [List.map_append]; rfl
          have e3 : (ofBytes (w ++ livB (zs.take (i + 1)))).length = w.length + (i + 1) := by rw [ofBytes_length, List.length_append]; unfold livB; rw [List.length_map, List.length_take]; omega
          have e4 := ofBytes_plainL (w ++ livB (zs.take (i + 1)))
          have e5 : appRoom 1 (w.length + i) 1 = true := room_of (by omega) (by omega)
          have e6 := encZ_plainL zs
          cases i with
          | zero =>
            have e2 : ofBytes w ++ [AV.int IntKind.u8 (wrapA IntKind.u8 x)] = ofBytes (w ++ livB (zs.take (0 + 1))) := by
              have := e2
              simpa [livB] using this
            have e5 : appRoom 1 w.length 1 = true := e5
            have key := rb_rA s0 s1 s2 s3 s4 la zs.length (encZ zs) la2 ll2 lv2 s6 s7 s8 s9 s10 w.length w.length zs.length 0 (ofBytes w)
            iterate 10
              replace key := key (by
                (try simp only [AV.intOf, p2, e1, Nat.zero_add, Nat.mul_one, z0, hw, k0, e2, e3, e4, e5, e6])
                first
                  | done
                  | with_reducible rfl
                  | with_reducible exact encZ_plainL _
                  | with_reducible exact ofBytes_plainL _
                  | (simp [e1, nbeq, nble, encZ_length, AV.isInt]; done)
                  | (simp [e1, nbeq, nble, encZ_length, AV.isInt]; omega))
            simp only [AV.intOf, p2, e1, Nat.zero_add, Nat.mul_one, z0, hw, k0, e2, e3, e4, e5, e6] at key
            exact key
          | succ j =>
            have key := rb_rB s0 s1 s2 s3 s4 la zs.length (encZ zs) la2 ll2 lv2 s6 s7 s8 s9 s10 (w.length + (j + 1)) (w.length + (j + 1)) zs.length (j + 1) (ofBytes (w ++ livB (zs.take (j + 1))))
            iterate 10
              replace key := key (by
                (try simp only [AV.intOf, p2, e1, Nat.zero_add, Nat.mul_one, z0, hw, k0, e2, e3, e4, e5, e6])
                first
                  | done
                  | with_reducible rfl
                  | with_reducible exact encZ_plainL _
                  | with_reducible exact ofBytes_plainL _
                  | (simp [e1, nbeq, nble, encZ_length, AV.isInt]; done)
                  | (simp [e1, nbeq, nble, encZ_length, AV.isInt]; omega))
            simp only [AV.intOf, p2, e1, Nat.zero_add, Nat.mul_one, z0, hw, k0, e2, e3, e4, e5, e6] at key
            exact key
        · have hi : i = zs.length := by omega
          subst hi
          refine .inr ⟨?_, by simp⟩
          have k0 : iltB (Int.ofNat zs.length) (Int.ofNat zs.length) = false := by rw [iltB_eq]; exact decide_eq_false (by show ¬ (zs.length : Int) < (zs.length : Int); omega)
          obtain ⟨j, hj⟩ : ∃ j, zs.length = j + 1 := ⟨zs.length - 1, by omega⟩
          have e : rbE s0 s1 s2 s3 s4 la2 ll2 lv2 s6 s7 s8 s9 s10 la w zs zs.length = ([.ptr (some (0, 0)), .slice (some (2, 0)) (w.length + zs.length) none, .fsl la zs.length (encZ zs), .int .i64 (Int.ofNat zs.length), .int .i64 (Int.ofNat zs.length)], [.cells true 80 11 [.int .i64 s0, .int .i64 s1, .int .i64 s2, .int .i64 s3, .int .i64 s4, .fsl la2 ll2 lv2, .int .u32 s6, .int .u32 s7, .int .i64 s8, .int .u32 s9, .int .u32 s10], .dead, .cells true 5 (w.length + zs.length) (ofBytes (w ++ livB (zs.take zs.length)))]) := by
            exact rbE_some _ _ _ _ _ _ _ _ _ _ _ _ _ _ w zs zs.length (by omega)
          rw [e]
          exact rb_xB s0 s1 s2 s3 s4 la zs.length (encZ zs) la2 ll2 lv2 s6 s7 s8 s9 s10 (w.length + zs.length) (w.length + zs.length) zs.length zs.length (ofBytes (w ++ livB (zs.take zs.length))) k0 (encZ_plainL _) p2 (ofBytes_plainL _)) ⟨0, Nat.zero_le _⟩
      have e : rbE s0 s1 s2 s3 s4 la2 ll2 lv2 s6 s7 s8 s9 s10 la w zs zs.length = ([.ptr (some (0, 0)), .slice (some (2, 0)) (w.length + zs.length) none, .fsl la zs.length (encZ zs), .int .i64 (Int.ofNat zs.length), .int .i64 (Int.ofNat zs.length)], [.cells true 80 11 [.int .i64 s0, .int .i64 s1, .int .i64 s2, .int .i64 s3, .int .i64 s4, .fsl la2 ll2 lv2, .int .u32 s6, .int .u32 s7, .int .i64 s8, .int .u32 s9, .int .u32 s10], .dead, .cells true 5 (w.length + zs.length) (ofBytes (w ++ livB zs))]) := by
        have := rbE_some s0 s1 s2 s3 s4 la2 ll2 lv2 s6 s7 s8 s9 s10 la w zs zs.length (by omega)
        rwa [List.take_length] at this
      simp only [e] at key
      exact CodeOK.block 2 key
    · cases h
end Go.Proofs.Ytecncappdnhbaaa
end
end

/- RequestReplies: what is known in the text that writes a status. -/
section
set_option autoImplicit false
set_option linter.unusedVariables false
set_option linter.unusedSimpArgs false
set_option maxRecDepth 100000
noncomputable section
namespace Go.Proofs.Ytecncappdnhbaaa
open Go.Ab.M Go.Ab Go
def K9c : Known := { t := T9a, l := [((11, 2), raL), ((50, 2), rbL)] }
theorem K9c_ok : KOK Try.prog tys K9c := ⟨T9a_ok, trivial, trivial, trivial, ⟨raL_ok, rbL_ok, trivial⟩⟩
abbrev C9c := mkCxZ tys fns K9c
theorem all9c : SumAll Try.prog C9c := sums_allZ K9c_ok
end Go.Proofs.Ytecncappdnhbaaa
end
end

/- RequestReplies: a status as it is written. -/
section
set_option autoImplicit false
set_option linter.unusedVariables false
set_option linter.unusedSimpArgs false
set_option maxRecDepth 100000
noncomputable section
namespace Go.Ab
namespace M
def q4 (x : Nat) : List UInt8 := [UInt8.ofNat (x / 16777216), UInt8.ofNat (x / 65536), UInt8.ofNat (x / 256), UInt8.ofNat (x / 1)]
def b1 (x : Int) : UInt8 := UInt8.ofNat (wrapA IntKind.u8 x).toNat
def statB (s0 s1 s2 s3 s4 : Int) (zs : List Int) (s6 s7 s8 s9 s10 : Int) : List UInt8 :=
  [UInt8.ofNat (wrapA IntKind.u8 s0).toNat, UInt8.ofNat (wrapA IntKind.u8 s1).toNat, UInt8.ofNat (wrapA IntKind.u8 s2).toNat, UInt8.ofNat (wrapA IntKind.u8 s3).toNat, UInt8.ofNat ((wrapA IntKind.u32 s4).toNat / 16777216), UInt8.ofNat ((wrapA IntKind.u32 s4).toNat / 65536), UInt8.ofNat ((wrapA IntKind.u32 s4).toNat / 256), UInt8.ofNat ((wrapA IntKind.u32 s4).toNat / 1)] ++
    [UInt8.ofNat (s6.toNat / 16777216), UInt8.ofNat (s6.toNat / 65536), UInt8.ofNat (s6.toNat / 256), UInt8.ofNat (s6.toNat / 1)] ++ [UInt8.ofNat (s7.toNat / 16777216), UInt8.ofNat (s7.toNat / 65536), UInt8.ofNat (s7.toNat / 256), UInt8.ofNat (s7.toNat / 1)] ++ [b1 (Int.ofNat zs.length)] ++ livB zs ++
    [UInt8.ofNat ((wrapA IntKind.u32 s8).toNat / 16777216), UInt8.ofNat ((wrapA IntKind.u32 s8).toNat / 65536), UInt8.ofNat ((wrapA IntKind.u32 s8).toNat / 256), UInt8.ofNat ((wrapA IntKind.u32 s8).toNat / 1)] ++ [UInt8.ofNat (s9.toNat / 16777216), UInt8.ofNat (s9.toNat / 65536), UInt8.ofNat (s9.toNat / 256), UInt8.ofNat (s9.toNat / 1)] ++ [UInt8.ofNat (s10.toNat / 16777216), UInt8.ofNat (s10.toNat / 65536), UInt8.ofNat (s10.toNat / 256), UInt8.ofNat (s10.toNat / 1)]
end M
open M
theorem livB_len (zs : List Int) : (livB zs).length = zs.length := by unfold livB; rw [List.length_map]
theorem rowCut_len (L : List UInt8) (n : Nat) (h : L.length = n) : rowCut (ofBytes L) 0 n = ofBytes L := by
  rw [rowCut_ofBytes, List.drop_zero, List.take_of_length_le (by omega)]
theorem app_u8 (L : List UInt8) (x : Int) : ofBytes L ++ [AV.int IntKind.u8 (wrapA IntKind.u8 x)] = ofBytes (L ++ [b1 x]) := by
  rw [u8_wrap, ofBytes_append]; rfl
theorem one_u8 (x : Int) : AV.int IntKind.u8 (wrapA IntKind.u8 x) = .int .u8 ((b1 x).toNat : Int) := u8_wrap x
theorem u8L_one (b : UInt8) (r : List AV) : u8L (.int .u8 (b.toNat : Int) :: r) = u8L r := by
  have hb := b.toNat_lt
  have : u8 (.int .u8 (b.toNat : Int)) = true := by
    have h := u8L_ofBytes [b]
    change cb (u8 (.int .u8 (b.toNat : Int))) true false = true at h
    cases hx : u8 (.int .u8 (b.toNat : Int)) with
    | true => rfl
    | false => rw [hx] at h; cases h
  show cb (u8 (.int .u8 (b.toNat : Int))) (u8L r) false = _
  rw [this]; rfl
theorem statB_len (s0 s1 s2 s3 s4 : Int) (zs : List Int) (s6 s7 s8 s9 s10 : Int) : (statB s0 s1 s2 s3 s4 zs s6 s7 s8 s9 s10).length = 17 + zs.length + 4 + 4 + 4 := by
  unfold statB; simp only [List.length_append, List.length_cons, List.length_nil, livB_len, Nat.reduceAdd, Nat.zero_add]
theorem u32_wrap (x : Int) : ileB (Int.ofNat 0) (wrapA .u32 x) = true ∧ iltB (wrapA .u32 x) (Int.ofNat 4294967296) = true := by
  have h : 0 ≤ wrapA .u32 x ∧ wrapA .u32 x < 4294967296 := by
    rw [wrapA_eq]; simp only [IntKind.wrap, IntKind.signed, IntKind.bits, Bool.false_and, Bool.false_eq_true, if_false]; omega
  rw [ileB_eq, iltB_eq]
  exact ⟨decide_eq_true h.1, decide_eq_true h.2⟩
end Go.Ab
namespace Go.Proofs.Ytecncappdnhbaaa
open Go.Ab.M Go.Ab Go
theorem st_e (s0 : Int) (s1 : Int) (s2 : Int) (s3 : Int) (s4 : Int) (la : Bool) (ll : Nat) (lv : List AV) (s6 : Int) (s7 : Int) (s8 : Int) (s9 : Int) (s10 : Int) (h0 : (u8L [AV.int IntKind.u8 (wrapA IntKind.u8 (AV.int IntKind.i64 s0).intOf), AV.int IntKind.u8 (wrapA IntKind.u8 (AV.int IntKind.i64 s1).intOf), AV.int IntKind.u8 (wrapA IntKind.u8 (AV.int IntKind.i64 s2).intOf), AV.int IntKind.u8 (wrapA IntKind.u8 (AV.int IntKind.i64 s3).intOf)]) = true) (h1 : (ileB (Int.ofNat 0) (AV.int IntKind.u32 (wrapA IntKind.u32 (AV.int IntKind.i64 s4).intOf)).intOf) = true) (h2 : (iltB (AV.int IntKind.u32 (wrapA IntKind.u32 (AV.int IntKind.i64 s4).intOf)).intOf (Int.ofNat 4294967296)) = true) (h3 : (AV.plainL (kept (ofBytes [UInt8.ofNat (AV.int IntKind.u8 (wrapA IntKind.u8 (AV.int IntKind.i64 s0).intOf)).intOf.toNat, UInt8.ofNat (AV.int IntKind.u8 (wrapA IntKind.u8 (AV.int IntKind.i64 s1).intOf)).intOf.toNat, UInt8.ofNat (AV.int IntKind.u8 (wrapA IntKind.u8 (AV.int IntKind.i64 s2).intOf)).intOf.toNat, UInt8.ofNat (AV.int IntKind.u8 (wrapA IntKind.u8 (AV.int IntKind.i64 s3).intOf)).intOf.toNat, UInt8.ofNat ((AV.int IntKind.u32 (wrapA IntKind.u32 (AV.int IntKind.i64 s4).intOf)).intOf.toNat / 16777216), UInt8.ofNat ((AV.int IntKind.u32 (wrapA IntKind.u32 (AV.int IntKind.i64 s4).intOf)).intOf.toNat / 65536), UInt8.ofNat ((AV.int IntKind.u32 (wrapA IntKind.u32 (AV.int IntKind.i64 s4).intOf)).intOf.toNat / 256), UInt8.ofNat ((AV.int IntKind.u32 (wrapA IntKind.u32 (AV.int IntKind.i64 s4).intOf)).intOf.toNat / 1)]))) = true) (h4 : ((rowCut (kept (ofBytes [UInt8.ofNat (AV.int IntKind.u8 (wrapA IntKind.u8 (AV.int IntKind.i64 s0).intOf)).intOf.toNat, UInt8.ofNat (AV.int IntKind.u8 (wrapA IntKind.u8 (AV.int IntKind.i64 s1).intOf)).intOf.toNat, UInt8.ofNat (AV.int IntKind.u8 (wrapA IntKind.u8 (AV.int IntKind.i64 s2).intOf)).intOf.toNat, UInt8.ofNat (AV.int IntKind.u8 (wrapA IntKind.u8 (AV.int IntKind.i64 s3).intOf)).intOf.toNat, UInt8.ofNat ((AV.int IntKind.u32 (wrapA IntKind.u32 (AV.int IntKind.i64 s4).intOf)).intOf.toNat / 16777216), UInt8.ofNat ((AV.int IntKind.u32 (wrapA IntKind.u32 (AV.int IntKind.i64 s4).intOf)).intOf.toNat / 65536), UInt8.ofNat ((AV.int IntKind.u32 (wrapA IntKind.u32 (AV.int IntKind.i64 s4).intOf)).intOf.toNat / 256), UInt8.ofNat ((AV.int IntKind.u32 (wrapA IntKind.u32 (AV.int IntKind.i64 s4).intOf)).intOf.toNat / 1)])) 0 8).length.beq 8) = true) (h5 : (u8L (rowCut (kept (ofBytes [UInt8.ofNat (AV.int IntKind.u8 (wrapA IntKind.u8 (AV.int IntKind.i64 s0).intOf)).intOf.toNat, UInt8.ofNat (AV.int IntKind.u8 (wrapA IntKind.u8 (AV.int IntKind.i64 s1).intOf)).intOf.toNat, UInt8.ofNat (AV.int IntKind.u8 (wrapA IntKind.u8 (AV.int IntKind.i64 s2).intOf)).intOf.toNat, UInt8.ofNat (AV.int IntKind.u8 (wrapA IntKind.u8 (AV.int IntKind.i64 s3).intOf)).intOf.toNat, UInt8.ofNat ((AV.int IntKind.u32 (wrapA IntKind.u32 (AV.int IntKind.i64 s4).intOf)).intOf.toNat / 16777216), UInt8.ofNat ((AV.int IntKind.u32 (wrapA IntKind.u32 (AV.int IntKind.i64 s4).intOf)).intOf.toNat / 65536), UInt8.ofNat ((AV.int IntKind.u32 (wrapA IntKind.u32 (AV.int IntKind.i64 s4).intOf)).intOf.toNat / 256), UInt8.ofNat ((AV.int IntKind.u32 (wrapA IntKind.u32 (AV.int IntKind.i64 s4).intOf)).intOf.toNat / 1)])) 0 8)) = true) (h6 : (ileB (Int.ofNat 0) (AV.int IntKind.u32 (AV.int IntKind.u32 s6).intOf).intOf) = true) (h7 : (iltB (AV.int IntKind.u32 (AV.int IntKind.u32 s6).intOf).intOf (Int.ofNat 4294967296)) = true) (h8 : (AV.plainL (kept (ofBytes (bytesL (rowCut (kept (ofBytes [UInt8.ofNat (AV.int IntKind.u8 (wrapA IntKind.u8 (AV.int IntKind.i64 s0).intOf)).intOf.toNat, UInt8.ofNat (AV.int IntKind.u8 (wrapA IntKind.u8 (AV.int IntKind.i64 s1).intOf)).intOf.toNat, UInt8.ofNat (AV.int IntKind.u8 (wrapA IntKind.u8 (AV.int IntKind.i64 s2).intOf)).intOf.toNat, UInt8.ofNat (AV.int IntKind.u8 (wrapA IntKind.u8 (AV.int IntKind.i64 s3).intOf)).intOf.toNat, UInt8.ofNat ((AV.int IntKind.u32 (wrapA IntKind.u32 (AV.int IntKind.i64 s4).intOf)).intOf.toNat / 16777216), UInt8.ofNat ((AV.int IntKind.u32 (wrapA IntKind.u32 (AV.int IntKind.i64 s4).intOf)).intOf.toNat / 65536), UInt8.ofNat ((AV.int IntKind.u32 (wrapA IntKind.u32 (AV.int IntKind.i64 s4).intOf)).intOf.toNat / 256), UInt8.ofNat ((AV.int IntKind.u32 (wrapA IntKind.u32 (AV.int IntKind.i64 s4).intOf)).intOf.toNat / 1)])) 0 8) ++ [UInt8.ofNat ((AV.int IntKind.u32 (AV.int IntKind.u32 s6).intOf).intOf.toNat / 16777216), UInt8.ofNat ((AV.int IntKind.u32 (AV.int IntKind.u32 s6).intOf).intOf.toNat / 65536), UInt8.ofNat ((AV.int IntKind.u32 (AV.int IntKind.u32 s6).intOf).intOf.toNat / 256), UInt8.ofNat ((AV.int IntKind.u32 (AV.int IntKind.u32 s6).intOf).intOf.toNat / 1)])))) = true) (h9 : ((rowCut (kept (ofBytes (bytesL (rowCut (kept (ofBytes [UInt8.ofNat (AV.int IntKind.u8 (wrapA IntKind.u8 (AV.int IntKind.i64 s0).intOf)).intOf.toNat, UInt8.ofNat (AV.int IntKind.u8 (wrapA IntKind.u8 (AV.int IntKind.i64 s1).intOf)).intOf.toNat, UInt8.ofNat (AV.int IntKind.u8 (wrapA IntKind.u8 (AV.int IntKind.i64 s2).intOf)).intOf.toNat, UInt8.ofNat (AV.int IntKind.u8 (wrapA IntKind.u8 (AV.int IntKind.i64 s3).intOf)).intOf.toNat, UInt8.ofNat ((AV.int IntKind.u32 (wrapA IntKind.u32 (AV.int IntKind.i64 s4).intOf)).intOf.toNat / 16777216), UInt8.ofNat ((AV.int IntKind.u32 (wrapA IntKind.u32 (AV.int IntKind.i64 s4).intOf)).intOf.toNat / 65536), UInt8.ofNat ((AV.int IntKind.u32 (wrapA IntKind.u32 (AV.int IntKind.i64 s4).intOf)).intOf.toNat / 256), UInt8.ofNat ((AV.int IntKind.u32 (wrapA IntKind.u32 (AV.int IntKind.i64 s4).intOf)).intOf.toNat / 1)])) 0 8) ++ [UInt8.ofNat ((AV.int IntKind.u32 (AV.int IntKind.u32 s6).intOf).intOf.toNat / 16777216), UInt8.ofNat ((AV.int IntKind.u32 (AV.int IntKind.u32 s6).intOf).intOf.toNat / 65536), UInt8.ofNat ((AV.int IntKind.u32 (AV.int IntKind.u32 s6).intOf).intOf.toNat / 256), UInt8.ofNat ((AV.int IntKind.u32 (AV.int IntKind.u32 s6).intOf).intOf.toNat / 1)]))) 0 12).length.beq 12) = true) (h10 : (u8L (rowCut (kept (ofBytes (bytesL (rowCut (kept (ofBytes [UInt8.ofNat (AV.int IntKind.u8 (wrapA IntKind.u8 (AV.int IntKind.i64 s0).intOf)).intOf.toNat, UInt8.ofNat (AV.int IntKind.u8 (wrapA IntKind.u8 (AV.int IntKind.i64 s1).intOf)).intOf.toNat, UInt8.ofNat (AV.int IntKind.u8 (wrapA IntKind.u8 (AV.int IntKind.i64 s2).intOf)).intOf.toNat, UInt8.ofNat (AV.int IntKind.u8 (wrapA IntKind.u8 (AV.int IntKind.i64 s3).intOf)).intOf.toNat, UInt8.ofNat ((AV.int IntKind.u32 (wrapA IntKind.u32 (AV.int IntKind.i64 s4).intOf)).intOf.toNat / 16777216), UInt8.ofNat ((AV.int IntKind.u32 (wrapA IntKind.u32 (AV.int IntKind.i64 s4).intOf)).intOf.toNat / 65536), UInt8.ofNat ((AV.int IntKind.u32 (wrapA IntKind.u32 (AV.int IntKind.i64 s4).intOf)).intOf.toNat / 256), UInt8.ofNat ((AV.int IntKind.u32 (wrapA IntKind.u32 (AV.int IntKind.i64 s4).intOf)).intOf.toNat / 1)])) 0 8) ++ [UInt8.ofNat ((AV.int IntKind.u32 (AV.int IntKind.u32 s6).intOf).intOf.toNat / 16777216), UInt8.ofNat ((AV.int IntKind.u32 (AV.int IntKind.u32 s6).intOf).intOf.toNat / 65536), UInt8.ofNat ((AV.int IntKind.u32 (AV.int IntKind.u32 s6).intOf).intOf.toNat / 256), UInt8.ofNat ((AV.int IntKind.u32 (AV.int IntKind.u32 s6).intOf).intOf.toNat / 1)]))) 0 12)) = true) (h11 : (ileB (Int.ofNat 0) (AV.int IntKind.u32 (AV.int IntKind.u32 s7).intOf).intOf) = true) (h12 : (iltB (AV.int IntKind.u32 (AV.int IntKind.u32 s7).intOf).intOf (Int.ofNat 4294967296)) = true) (h13 : (ll.beq 0) = true) (h14 : (AV.plainL lv) = true) (h15 : (AV.plainL (kept (ofBytes (bytesL (rowCut (kept (ofBytes (bytesL (rowCut (kept (ofBytes [UInt8.ofNat (AV.int IntKind.u8 (wrapA IntKind.u8 (AV.int IntKind.i64 s0).intOf)).intOf.toNat, UInt8.ofNat (AV.int IntKind.u8 (wrapA IntKind.u8 (AV.int IntKind.i64 s1).intOf)).intOf.toNat, UInt8.ofNat (AV.int IntKind.u8 (wrapA IntKind.u8 (AV.int IntKind.i64 s2).intOf)).intOf.toNat, UInt8.ofNat (AV.int IntKind.u8 (wrapA IntKind.u8 (AV.int IntKind.i64 s3).intOf)).intOf.toNat, UInt8.ofNat ((AV.int IntKind.u32 (wrapA IntKind.u32 (AV.int IntKind.i64 s4).intOf)).intOf.toNat / 16777216), UInt8.ofNat ((AV.int IntKind.u32 (wrapA IntKind.u32 (AV.int IntKind.i64 s4).intOf)).intOf.toNat / 65536), UInt8.ofNat ((AV.int IntKind.u32 (wrapA IntKind.u32 (AV.int IntKind.i64 s4).intOf)).intOf.toNat / 256), UInt8.ofNat ((AV.int IntKind.u32 (wrapA IntKind.u32 (AV.int IntKind.i64 s4).intOf)).intOf.toNat / 1)])) 0 8) ++ [UInt8.ofNat ((AV.int IntKind.u32 (AV.int IntKind.u32 s6).intOf).intOf.toNat / 16777216), UInt8.ofNat ((AV.int IntKind.u32 (AV.int IntKind.u32 s6).intOf).intOf.toNat / 65536), UInt8.ofNat ((AV.int IntKind.u32 (AV.int IntKind.u32 s6).intOf).intOf.toNat / 256), UInt8.ofNat ((AV.int IntKind.u32 (AV.int IntKind.u32 s6).intOf).intOf.toNat / 1)]))) 0 12) ++ [UInt8.ofNat ((AV.int IntKind.u32 (AV.int IntKind.u32 s7).intOf).intOf.toNat / 16777216), UInt8.ofNat ((AV.int IntKind.u32 (AV.int IntKind.u32 s7).intOf).intOf.toNat / 65536), UInt8.ofNat ((AV.int IntKind.u32 (AV.int IntKind.u32 s7).intOf).intOf.toNat / 256), UInt8.ofNat ((AV.int IntKind.u32 (AV.int IntKind.u32 s7).intOf).intOf.toNat / 1)])) ++ [AV.int IntKind.u8 (wrapA IntKind.u8 (Int.ofNat ll))])) = true) (h16 : (Nat.ble 17 (kept (ofBytes (bytesL (rowCut (kept (ofBytes (bytesL (rowCut (kept (ofBytes [UInt8.ofNat (AV.int IntKind.u8 (wrapA IntKind.u8 (AV.int IntKind.i64 s0).intOf)).intOf.toNat, UInt8.ofNat (AV.int IntKind.u8 (wrapA IntKind.u8 (AV.int IntKind.i64 s1).intOf)).intOf.toNat, UInt8.ofNat (AV.int IntKind.u8 (wrapA IntKind.u8 (AV.int IntKind.i64 s2).intOf)).intOf.toNat, UInt8.ofNat (AV.int IntKind.u8 (wrapA IntKind.u8 (AV.int IntKind.i64 s3).intOf)).intOf.toNat, UInt8.ofNat ((AV.int IntKind.u32 (wrapA IntKind.u32 (AV.int IntKind.i64 s4).intOf)).intOf.toNat / 16777216), UInt8.ofNat ((AV.int IntKind.u32 (wrapA IntKind.u32 (AV.int IntKind.i64 s4).intOf)).intOf.toNat / 65536), UInt8.ofNat ((AV.int IntKind.u32 (wrapA IntKind.u32 (AV.int IntKind.i64 s4).intOf)).intOf.toNat / 256), UInt8.ofNat ((AV.int IntKind.u32 (wrapA IntKind.u32 (AV.int IntKind.i64 s4).intOf)).intOf.toNat / 1)])) 0 8) ++ [UInt8.ofNat ((AV.int IntKind.u32 (AV.int IntKind.u32 s6).intOf).intOf.toNat / 16777216), UInt8.ofNat ((AV.int IntKind.u32 (AV.int IntKind.u32 s6).intOf).intOf.toNat / 65536), UInt8.ofNat ((AV.int IntKind.u32 (AV.int IntKind.u32 s6).intOf).intOf.toNat / 256), UInt8.ofNat ((AV.int IntKind.u32 (AV.int IntKind.u32 s6).intOf).intOf.toNat / 1)]))) 0 12) ++ [UInt8.ofNat ((AV.int IntKind.u32 (AV.int IntKind.u32 s7).intOf).intOf.toNat / 16777216), UInt8.ofNat ((AV.int IntKind.u32 (AV.int IntKind.u32 s7).intOf).intOf.toNat / 65536), UInt8.ofNat ((AV.int IntKind.u32 (AV.int IntKind.u32 s7).intOf).intOf.toNat / 256), UInt8.ofNat ((AV.int IntKind.u32 (AV.int IntKind.u32 s7).intOf).intOf.toNat / 1)])) ++ [AV.int IntKind.u8 (wrapA IntKind.u8 (Int.ofNat ll))]).length) = true) (h17 : ((rowCut (kept (ofBytes (bytesL (rowCut (kept (ofBytes (bytesL (rowCut (kept (ofBytes [UInt8.ofNat (AV.int IntKind.u8 (wrapA IntKind.u8 (AV.int IntKind.i64 s0).intOf)).intOf.toNat, UInt8.ofNat (AV.int IntKind.u8 (wrapA IntKind.u8 (AV.int IntKind.i64 s1).intOf)).intOf.toNat, UInt8.ofNat (AV.int IntKind.u8 (wrapA IntKind.u8 (AV.int IntKind.i64 s2).intOf)).intOf.toNat, UInt8.ofNat (AV.int IntKind.u8 (wrapA IntKind.u8 (AV.int IntKind.i64 s3).intOf)).intOf.toNat, UInt8.ofNat ((AV.int IntKind.u32 (wrapA IntKind.u32 (AV.int IntKind.i64 s4).intOf)).intOf.toNat / 16777216), UInt8.ofNat ((AV.int IntKind.u32 (wrapA IntKind.u32 (AV.int IntKind.i64 s4).intOf)).intOf.toNat / 65536), UInt8.ofNat ((AV.int IntKind.u32 (wrapA IntKind.u32 (AV.int IntKind.i64 s4).intOf)).intOf.toNat / 256), UInt8.ofNat ((AV.int IntKind.u32 (wrapA IntKind.u32 (AV.int IntKind.i64 s4).intOf)).intOf.toNat / 1)])) 0 8) ++ [UInt8.ofNat ((AV.int IntKind.u32 (AV.int IntKind.u32 s6).intOf).intOf.toNat / 16777216), UInt8.ofNat ((AV.int IntKind.u32 (AV.int IntKind.u32 s6).intOf).intOf.toNat / 65536), UInt8.ofNat ((AV.int IntKind.u32 (AV.int IntKind.u32 s6).intOf).intOf.toNat / 256), UInt8.ofNat ((AV.int IntKind.u32 (AV.int IntKind.u32 s6).intOf).intOf.toNat / 1)]))) 0 12) ++ [UInt8.ofNat ((AV.int IntKind.u32 (AV.int IntKind.u32 s7).intOf).intOf.toNat / 16777216), UInt8.ofNat ((AV.int IntKind.u32 (AV.int IntKind.u32 s7).intOf).intOf.toNat / 65536), UInt8.ofNat ((AV.int IntKind.u32 (AV.int IntKind.u32 s7).intOf).intOf.toNat / 256), UInt8.ofNat ((AV.int IntKind.u32 (AV.int IntKind.u32 s7).intOf).intOf.toNat / 1)])) ++ [AV.int IntKind.u8 (wrapA IntKind.u8 (Int.ofNat ll))]) 0 17).length.beq 17) = true) (h18 : (u8L (rowCut (kept (ofBytes (bytesL (rowCut (kept (ofBytes (bytesL (rowCut (kept (ofBytes [UInt8.ofNat (AV.int IntKind.u8 (wrapA IntKind.u8 (AV.int IntKind.i64 s0).intOf)).intOf.toNat, UInt8.ofNat (AV.int IntKind.u8 (wrapA IntKind.u8 (AV.int IntKind.i64 s1).intOf)).intOf.toNat, UInt8.ofNat (AV.int IntKind.u8 (wrapA IntKind.u8 (AV.int IntKind.i64 s2).intOf)).intOf.toNat, UInt8.ofNat (AV.int IntKind.u8 (wrapA IntKind.u8 (AV.int IntKind.i64 s3).intOf)).intOf.toNat, UInt8.ofNat ((AV.int IntKind.u32 (wrapA IntKind.u32 (AV.int IntKind.i64 s4).intOf)).intOf.toNat / 16777216), UInt8.ofNat ((AV.int IntKind.u32 (wrapA IntKind.u32 (AV.int IntKind.i64 s4).intOf)).intOf.toNat / 65536), UInt8.ofNat ((AV.int IntKind.u32 (wrapA IntKind.u32 (AV.int IntKind.i64 s4).intOf)).intOf.toNat / 256), UInt8.ofNat ((AV.int IntKind.u32 (wrapA IntKind.u32 (AV.int IntKind.i64 s4).intOf)).intOf.toNat / 1)])) 0 8) ++ [UInt8.ofNat ((AV.int IntKind.u32 (AV.int IntKind.u32 s6).intOf).intOf.toNat / 16777216), UInt8.ofNat ((AV.int IntKind.u32 (AV.int IntKind.u32 s6).intOf).intOf.toNat / 65536), UInt8.ofNat ((AV.int IntKind.u32 (AV.int IntKind.u32 s6).intOf).intOf.toNat / 256), UInt8.ofNat ((AV.int IntKind.u32 (AV.int IntKind.u32 s6).intOf).intOf.toNat / 1)]))) 0 12) ++ [UInt8.ofNat ((AV.int IntKind.u32 (AV.int IntKind.u32 s7).intOf).intOf.toNat / 16777216), UInt8.ofNat ((AV.int IntKind.u32 (AV.int IntKind.u32 s7).intOf).intOf.toNat / 65536), UInt8.ofNat ((AV.int IntKind.u32 (AV.int IntKind.u32 s7).intOf).intOf.toNat / 256), UInt8.ofNat ((AV.int IntKind.u32 (AV.int IntKind.u32 s7).intOf).intOf.toNat / 1)])) ++ [AV.int IntKind.u8 (wrapA IntKind.u8 (Int.ofNat ll))]) 0 17)) = true) (h19 : (ileB (Int.ofNat 0) (wrapA IntKind.u32 (AV.int IntKind.i64 s8).intOf)) = true) (h20 : (iltB (wrapA IntKind.u32 (AV.int IntKind.i64 s8).intOf) (Int.ofNat 4294967296)) = true) (h21 : (AV.plainL (kept (ofBytes (bytesL (rowCut (kept (ofBytes (bytesL (rowCut (kept (ofBytes (bytesL (rowCut (kept (ofBytes [UInt8.ofNat (AV.int IntKind.u8 (wrapA IntKind.u8 (AV.int IntKind.i64 s0).intOf)).intOf.toNat, UInt8.ofNat (AV.int IntKind.u8 (wrapA IntKind.u8 (AV.int IntKind.i64 s1).intOf)).intOf.toNat, UInt8.ofNat (AV.int IntKind.u8 (wrapA IntKind.u8 (AV.int IntKind.i64 s2).intOf)).intOf.toNat, UInt8.ofNat (AV.int IntKind.u8 (wrapA IntKind.u8 (AV.int IntKind.i64 s3).intOf)).intOf.toNat, UInt8.ofNat ((AV.int IntKind.u32 (wrapA IntKind.u32 (AV.int IntKind.i64 s4).intOf)).intOf.toNat / 16777216), UInt8.ofNat ((AV.int IntKind.u32 (wrapA IntKind.u32 (AV.int IntKind.i64 s4).intOf)).intOf.toNat / 65536), UInt8.ofNat ((AV.int IntKind.u32 (wrapA IntKind.u32 (AV.int IntKind.i64 s4).intOf)).intOf.toNat / 256), UInt8.ofNat ((AV.int IntKind.u32 (wrapA IntKind.u32 (AV.int IntKind.i64 s4).intOf)).intOf.toNat / 1)])) 0 8) ++ [UInt8.ofNat ((AV.int IntKind.u32 (AV.int IntKind.u32 s6).intOf).intOf.toNat / 16777216), UInt8.ofNat ((AV.int IntKind.u32 (AV.int IntKind.u32 s6).intOf).intOf.toNat / 65536), UInt8.ofNat ((AV.int IntKind.u32 (AV.int IntKind.u32 s6).intOf).intOf.toNat / 256), UInt8.ofNat ((AV.int IntKind.u32 (AV.int IntKind.u32 s6).intOf).intOf.toNat / 1)]))) 0 12) ++ [UInt8.ofNat ((AV.int IntKind.u32 (AV.int IntKind.u32 s7).intOf).intOf.toNat / 16777216), UInt8.ofNat ((AV.int IntKind.u32 (AV.int IntKind.u32 s7).intOf).intOf.toNat / 65536), UInt8.ofNat ((AV.int IntKind.u32 (AV.int IntKind.u32 s7).intOf).intOf.toNat / 256), UInt8.ofNat ((AV.int IntKind.u32 (AV.int IntKind.u32 s7).intOf).intOf.toNat / 1)])) ++ [AV.int IntKind.u8 (wrapA IntKind.u8 (Int.ofNat ll))]) 0 17) ++ [UInt8.ofNat ((wrapA IntKind.u32 (AV.int IntKind.i64 s8).intOf).toNat / 16777216), UInt8.ofNat ((wrapA IntKind.u32 (AV.int IntKind.i64 s8).intOf).toNat / 65536), UInt8.ofNat ((wrapA IntKind.u32 (AV.int IntKind.i64 s8).intOf).toNat / 256), UInt8.ofNat ((wrapA IntKind.u32 (AV.int IntKind.i64 s8).intOf).toNat / 1)])))) = true) (h22 : ((rowCut (kept (ofBytes (bytesL (rowCut (kept (ofBytes (bytesL (rowCut (kept (ofBytes (bytesL (rowCut (kept (ofBytes [UInt8.ofNat (AV.int IntKind.u8 (wrapA IntKind.u8 (AV.int IntKind.i64 s0).intOf)).intOf.toNat, UInt8.ofNat (AV.int IntKind.u8 (wrapA IntKind.u8 (AV.int IntKind.i64 s1).intOf)).intOf.toNat, UInt8.ofNat (AV.int IntKind.u8 (wrapA IntKind.u8 (AV.int IntKind.i64 s2).intOf)).intOf.toNat, UInt8.ofNat (AV.int IntKind.u8 (wrapA IntKind.u8 (AV.int IntKind.i64 s3).intOf)).intOf.toNat, UInt8.ofNat ((AV.int IntKind.u32 (wrapA IntKind.u32 (AV.int IntKind.i64 s4).intOf)).intOf.toNat / 16777216), UInt8.ofNat ((AV.int IntKind.u32 (wrapA IntKind.u32 (AV.int IntKind.i64 s4).intOf)).intOf.toNat / 65536), UInt8.ofNat ((AV.int IntKind.u32 (wrapA IntKind.u32 (AV.int IntKind.i64 s4).intOf)).intOf.toNat / 256), UInt8.ofNat ((AV.int IntKind.u32 (wrapA IntKind.u32 (AV.int IntKind.i64 s4).intOf)).intOf.toNat / 1)])) 0 8) ++ [UInt8.ofNat ((AV.int IntKind.u32 (AV.int IntKind.u32 s6).intOf).intOf.toNat / 16777216), UInt8.ofNat ((AV.int IntKind.u32 (AV.int IntKind.u32 s6).intOf).intOf.toNat / 65536), UInt8.ofNat ((AV.int IntKind.u32 (AV.int IntKind.u32 s6).intOf).intOf.toNat / 256), UInt8.ofNat ((AV.int IntKind.u32 (AV.int IntKind.u32 s6).intOf).intOf.toNat / 1)]))) 0 12) ++ [UInt8.ofNat ((AV.int IntKind.u32 (AV.int IntKind.u32 s7).intOf).intOf.toNat / 16777216), UInt8.ofNat ((AV.int IntKind.u32 (AV.int IntKind.u32 s7).intOf).intOf.toNat / 65536), UInt8.ofNat ((AV.int IntKind.u32 (AV.int IntKind.u32 s7).intOf).intOf.toNat / 256), UInt8.ofNat ((AV.int IntKind.u32 (AV.int IntKind.u32 s7).intOf).intOf.toNat / 1)])) ++ [AV.int IntKind.u8 (wrapA IntKind.u8 (Int.ofNat ll))]) 0 17) ++ [UInt8.ofNat ((wrapA IntKind.u32 (AV.int IntKind.i64 s8).intOf).toNat / 16777216), UInt8.ofNat ((wrapA IntKind.u32 (AV.int IntKind.i64 s8).intOf).toNat / 65536), UInt8.ofNat ((wrapA IntKind.u32 (AV.int IntKind.i64 s8).intOf).toNat / 256), UInt8.ofNat ((wrapA IntKind.u32 (AV.int IntKind.i64 s8).intOf).toNat / 1)]))) 0 21).length.beq 21) = true) (h23 : (u8L (rowCut (kept (ofBytes (bytesL (rowCut (kept (ofBytes (bytesL (rowCut (kept (ofBytes (bytesL (rowCut (kept (ofBytes [UInt8.ofNat (AV.int IntKind.u8 (wrapA IntKind.u8 (AV.int IntKind.i64 s0).intOf)).intOf.toNat, UInt8.ofNat (AV.int IntKind.u8 (wrapA IntKind.u8 (AV.int IntKind.i64 s1).intOf)).intOf.toNat, UInt8.ofNat (AV.int IntKind.u8 (wrapA IntKind.u8 (AV.int IntKind.i64 s2).intOf)).intOf.toNat, UInt8.ofNat (AV.int IntKind.u8 (wrapA IntKind.u8 (AV.int IntKind.i64 s3).intOf)).intOf.toNat, UInt8.ofNat ((AV.int IntKind.u32 (wrapA IntKind.u32 (AV.int IntKind.i64 s4).intOf)).intOf.toNat / 16777216), UInt8.ofNat ((AV.int IntKind.u32 (wrapA IntKind.u32 (AV.int IntKind.i64 s4).intOf)).intOf.toNat / 65536), UInt8.ofNat ((AV.int IntKind.u32 (wrapA IntKind.u32 (AV.int IntKind.i64 s4).intOf)).intOf.toNat / 256), UInt8.ofNat ((AV.int IntKind.u32 (wrapA IntKind.u32 (AV.int IntKind.i64 s4).intOf)).intOf.toNat / 1)])) 0 8) ++ [UInt8.ofNat ((AV.int IntKind.u32 (AV.int IntKind.u32 s6).intOf).intOf.toNat / 16777216), UInt8.ofNat ((AV.int IntKind.u32 (AV.int IntKind.u32 s6).intOf).intOf.toNat / 65536), UInt8.ofNat ((AV.int IntKind.u32 (AV.int IntKind.u32 s6).intOf).intOf.toNat / 256), UInt8.ofNat ((AV.int IntKind.u32 (AV.int IntKind.u32 s6).intOf).intOf.toNat / 1)]))) 0 12) ++ [UInt8.ofNat ((AV.int IntKind.u32 (AV.int IntKind.u32 s7).intOf).intOf.toNat / 16777216), UInt8.ofNat ((AV.int IntKind.u32 (AV.int IntKind.u32 s7).intOf).intOf.toNat / 65536), UInt8.ofNat ((AV.int IntKind.u32 (AV.int IntKind.u32 s7).intOf).intOf.toNat / 256), UInt8.ofNat ((AV.int IntKind.u32 (AV.int IntKind.u32 s7).intOf).intOf.toNat / 1)])) ++ [AV.int IntKind.u8 (wrapA IntKind.u8 (Int.ofNat ll))]) 0 17) ++ [UInt8.ofNat ((wrapA IntKind.u32 (AV.int IntKind.i64 s8).intOf).toNat / 16777216), UInt8.ofNat ((wrapA IntKind.u32 (AV.int IntKind.i64 s8).intOf).toNat / 65536), UInt8.ofNat ((wrapA IntKind.u32 (AV.int IntKind.i64 s8).intOf).toNat / 256), UInt8.ofNat ((wrapA IntKind.u32 (AV.int IntKind.i64 s8).intOf).toNat / 1)]))) 0 21)) = true) (h24 : (ileB (Int.ofNat 0) (AV.int IntKind.u32 s9).intOf) = true) (h25 : (iltB (AV.int IntKind.u32 s9).intOf (Int.ofNat 4294967296)) = true) (h26 : (AV.plainL (kept (ofBytes (bytesL (rowCut (kept (ofBytes (bytesL (rowCut (kept (ofBytes (bytesL (rowCut (kept (ofBytes (bytesL (rowCut (kept (ofBytes [UInt8.ofNat (AV.int IntKind.u8 (wrapA IntKind.u8 (AV.int IntKind.i64 s0).intOf)).intOf.toNat, UInt8.ofNat (AV.int IntKind.u8 (wrapA IntKind.u8 (AV.int IntKind.i64 s1).intOf)).intOf.toNat, UInt8.ofNat (AV.int IntKind.u8 (wrapA IntKind.u8 (AV.int IntKind.i64 s2).intOf)).intOf.toNat, UInt8.ofNat (AV.int IntKind.u8 (wrapA IntKind.u8 (AV.int IntKind.i64 s3).intOf)).intOf.toNat, UInt8.ofNat ((AV.int IntKind.u32 (wrapA IntKind.u32 (AV.int IntKind.i64 s4).intOf)).intOf.toNat / 16777216), UInt8.ofNat ((AV.int IntKind.u32 (wrapA IntKind.u32 (AV.int IntKind.i64 s4).intOf)).intOf.toNat / 65536), UInt8.ofNat ((AV.int IntKind.u32 (wrapA IntKind.u32 (AV.int IntKind.i64 s4).intOf)).intOf.toNat / 256), UInt8.ofNat ((AV.int IntKind.u32 (wrapA IntKind.u32 (AV.int IntKind.i64 s4).intOf)).intOf.toNat / 1)])) 0 8) ++ [UInt8.ofNat ((AV.int IntKind.u32 (AV.int IntKind.u32 s6).intOf).intOf.toNat / 16777216), UInt8.ofNat ((AV.int IntKind.u32 (AV.int IntKind.u32 s6).intOf).intOf.toNat / 65536), UInt8.ofNat ((AV.int IntKind.u32 (AV.int IntKind.u32 s6).intOf).intOf.toNat / 256), UInt8.ofNat ((AV.int IntKind.u32 (AV.int IntKind.u32 s6).intOf).intOf.toNat / 1)]))) 0 12) ++ [UInt8.ofNat ((AV.int IntKind.u32 (AV.int IntKind.u32 s7).intOf).intOf.toNat / 16777216), UInt8.ofNat ((AV.int IntKind.u32 (AV.int IntKind.u32 s7).intOf).intOf.toNat / 65536), UInt8.ofNat ((AV.int IntKind.u32 (AV.int IntKind.u32 s7).intOf).intOf.toNat / 256), UInt8.ofNat ((AV.int IntKind.u32 (AV.int IntKind.u32 s7).intOf).intOf.toNat / 1)])) ++ [AV.int IntKind.u8 (wrapA IntKind.u8 (Int.ofNat ll))]) 0 17) ++ [UInt8.ofNat ((wrapA IntKind.u32 (AV.int IntKind.i64 s8).intOf).toNat / 16777216), UInt8.ofNat ((wrapA IntKind.u32 (AV.int IntKind.i64 s8).intOf).toNat / 65536), UInt8.ofNat ((wrapA IntKind.u32 (AV.int IntKind.i64 s8).intOf).toNat / 256), UInt8.ofNat ((wrapA IntKind.u32 (AV.int IntKind.i64 s8).intOf).toNat / 1)]))) 0 21) ++ [UInt8.ofNat ((AV.int IntKind.u32 s9).intOf.toNat / 16777216), UInt8.ofNat ((AV.int IntKind.u32 s9).intOf.toNat / 65536), UInt8.ofNat ((AV.int IntKind.u32 s9).intOf.toNat / 256), UInt8.ofNat ((AV.int IntKind.u32 s9).intOf.toNat / 1)])))) = true) (h27 : ((rowCut (kept (ofBytes (bytesL (rowCut (kept (ofBytes (bytesL (rowCut (kept (ofBytes (bytesL (rowCut (kept (ofBytes (bytesL (rowCut (kept (ofBytes [UInt8.ofNat (AV.int IntKind.u8 (wrapA IntKind.u8 (AV.int IntKind.i64 s0).intOf)).intOf.toNat, UInt8.ofNat (AV.int IntKind.u8 (wrapA IntKind.u8 (AV.int IntKind.i64 s1).intOf)).intOf.toNat, UInt8.ofNat (AV.int IntKind.u8 (wrapA IntKind.u8 (AV.int IntKind.i64 s2).intOf)).intOf.toNat, UInt8.ofNat (AV.int IntKind.u8 (wrapA IntKind.u8 (AV.int IntKind.i64 s3).intOf)).intOf.toNat, UInt8.ofNat ((AV.int IntKind.u32 (wrapA IntKind.u32 (AV.int IntKind.i64 s4).intOf)).intOf.toNat / 16777216), UInt8.ofNat ((AV.int IntKind.u32 (wrapA IntKind.u32 (AV.int IntKind.i64 s4).intOf)).intOf.toNat / 65536), UInt8.ofNat ((AV.int IntKind.u32 (wrapA IntKind.u32 (AV.int IntKind.i64 s4).intOf)).intOf.toNat / 256), UInt8.ofNat ((AV.int IntKind.u32 (wrapA IntKind.u32 (AV.int IntKind.i64 s4).intOf)).intOf.toNat / 1)])) 0 8) ++ [UInt8.ofNat ((AV.int IntKind.u32 (AV.int IntKind.u32 s6).intOf).intOf.toNat / 16777216), UInt8.ofNat ((AV.int IntKind.u32 (AV.int IntKind.u32 s6).intOf).intOf.toNat / 65536), UInt8.ofNat ((AV.int IntKind.u32 (AV.int IntKind.u32 s6).intOf).intOf.toNat / 256), UInt8.ofNat ((AV.int IntKind.u32 (AV.int IntKind.u32 s6).intOf).intOf.toNat / 1)]))) 0 12) ++ [UInt8.ofNat ((AV.int IntKind.u32 (AV.int IntKind.u32 s7).intOf).intOf.toNat / 16777216), UInt8.ofNat ((AV.int IntKind.u32 (AV.int IntKind.u32 s7).intOf).intOf.toNat / 65536), UInt8.ofNat ((AV.int IntKind.u32 (AV.int IntKind.u32 s7).intOf).intOf.toNat / 256), UInt8.ofNat ((AV.int IntKind.u32 (AV.int IntKind.u32 s7).intOf).intOf.toNat / 1)])) ++ [AV.int IntKind.u8 (wrapA IntKind.u8 (Int.ofNat ll))]) 0 17) ++ [UInt8.ofNat ((wrapA IntKind.u32 (AV.int IntKind.i64 s8).intOf).toNat / 16777216), UInt8.ofNat ((wrapA IntKind.u32 (AV.int IntKind.i64 s8).intOf).toNat / 65536), UInt8.ofNat ((wrapA IntKind.u32 (AV.int IntKind.i64 s8).intOf).toNat / 256), UInt8.ofNat ((wrapA IntKind.u32 (AV.int IntKind.i64 s8).intOf).toNat / 1)]))) 0 21) ++ [UInt8.ofNat ((AV.int IntKind.u32 s9).intOf.toNat / 16777216), UInt8.ofNat ((AV.int IntKind.u32 s9).intOf.toNat / 65536), UInt8.ofNat ((AV.int IntKind.u32 s9).intOf.toNat / 256), UInt8.ofNat ((AV.int IntKind.u32 s9).intOf.toNat / 1)]))) 0 25).length.beq 25) = true) (h28 : (u8L (rowCut (kept (ofBytes (bytesL (rowCut (kept (ofBytes (bytesL (rowCut (kept (ofBytes (bytesL (rowCut (kept (ofBytes (bytesL (rowCut (kept (ofBytes [UInt8.ofNat (AV.int IntKind.u8 (wrapA IntKind.u8 (AV.int IntKind.i64 s0).intOf)).intOf.toNat, UInt8.ofNat (AV.int IntKind.u8 (wrapA IntKind.u8 (AV.int IntKind.i64 s1).intOf)).intOf.toNat, UInt8.ofNat (AV.int IntKind.u8 (wrapA IntKind.u8 (AV.int IntKind.i64 s2).intOf)).intOf.toNat, UInt8.ofNat (AV.int IntKind.u8 (wrapA IntKind.u8 (AV.int IntKind.i64 s3).intOf)).intOf.toNat, UInt8.ofNat ((AV.int IntKind.u32 (wrapA IntKind.u32 (AV.int IntKind.i64 s4).intOf)).intOf.toNat / 16777216), UInt8.ofNat ((AV.int IntKind.u32 (wrapA IntKind.u32 (AV.int IntKind.i64 s4).intOf)).intOf.toNat / 65536), UInt8.ofNat ((AV.int IntKind.u32 (wrapA IntKind.u32 (AV.int IntKind.i64 s4).intOf)).intOf.toNat / 256), UInt8.ofNat ((AV.int IntKind.u32 (wrapA IntKind.u32 (AV.int IntKind.i64 s4).intOf)).intOf.toNat / 1)])) 0 8) ++ [UInt8.ofNat ((AV.int IntKind.u32 (AV.int IntKind.u32 s6).intOf).intOf.toNat / 16777216), UInt8.ofNat ((AV.int IntKind.u32 (AV.int IntKind.u32 s6).intOf).intOf.toNat / 65536), UInt8.ofNat ((AV.int IntKind.u32 (AV.int IntKind.u32 s6).intOf).intOf.toNat / 256), UInt8.ofNat ((AV.int IntKind.u32 (AV.int IntKind.u32 s6).intOf).intOf.toNat / 1)]))) 0 12) ++ [UInt8.ofNat ((AV.int IntKind.u32 (AV.int IntKind.u32 s7).intOf).intOf.toNat / 16777216), UInt8.ofNat ((AV.int IntKind.u32 (AV.int IntKind.u32 s7).intOf).intOf.toNat / 65536), UInt8.ofNat ((AV.int IntKind.u32 (AV.int IntKind.u32 s7).intOf).intOf.toNat / 256), UInt8.ofNat ((AV.int IntKind.u32 (AV.int IntKind.u32 s7).intOf).intOf.toNat / 1)])) ++ [AV.int IntKind.u8 (wrapA IntKind.u8 (Int.ofNat ll))]) 0 17) ++ [UInt8.ofNat ((wrapA IntKind.u32 (AV.int IntKind.i64 s8).intOf).toNat / 16777216), UInt8.ofNat ((wrapA IntKind.u32 (AV.int IntKind.i64 s8).intOf).toNat / 65536), UInt8.ofNat ((wrapA IntKind.u32 (AV.int IntKind.i64 s8).intOf).toNat / 256), UInt8.ofNat ((wrapA IntKind.u32 (AV.int IntKind.i64 s8).intOf).toNat / 1)]))) 0 21) ++ [UInt8.ofNat ((AV.int IntKind.u32 s9).intOf.toNat / 16777216), UInt8.ofNat ((AV.int IntKind.u32 s9).intOf.toNat / 65536), UInt8.ofNat ((AV.int IntKind.u32 s9).intOf.toNat / 256), UInt8.ofNat ((AV.int IntKind.u32 s9).intOf.toNat / 1)]))) 0 25)) = true) (h29 : (ileB (Int.ofNat 0) (AV.int IntKind.u32 s10).intOf) = true) (h30 : (iltB (AV.int IntKind.u32 s10).intOf (Int.ofNat 4294967296)) = true) :
    ∃ h', aCall C9c 60 (Tgt.fn 50) [AV.agg [AV.int IntKind.i64 s0, AV.int IntKind.i64 s1, AV.int IntKind.i64 s2, AV.int IntKind.i64 s3, AV.int IntKind.i64 s4, AV.fsl la ll lv, AV.int IntKind.u32 s6, AV.int IntKind.u32 s7, AV.int IntKind.i64 s8, AV.int IntKind.u32 s9, AV.int IntKind.u32 s10]] H0 = some (AV.slice (some (10, 0)) 29 none, h') ∧ [10].map h'.get = [Blk.cells true 5 29 (kept (ofBytes (bytesL (rowCut (kept (ofBytes (bytesL (rowCut (kept (ofBytes (bytesL (rowCut (kept (ofBytes (bytesL (rowCut (kept (ofBytes (bytesL (rowCut (kept (ofBytes [UInt8.ofNat (AV.int IntKind.u8 (wrapA IntKind.u8 (AV.int IntKind.i64 s0).intOf)).intOf.toNat, UInt8.ofNat (AV.int IntKind.u8 (wrapA IntKind.u8 (AV.int IntKind.i64 s1).intOf)).intOf.toNat, UInt8.ofNat (AV.int IntKind.u8 (wrapA IntKind.u8 (AV.int IntKind.i64 s2).intOf)).intOf.toNat, UInt8.ofNat (AV.int IntKind.u8 (wrapA IntKind.u8 (AV.int IntKind.i64 s3).intOf)).intOf.toNat, UInt8.ofNat ((AV.int IntKind.u32 (wrapA IntKind.u32 (AV.int IntKind.i64 s4).intOf)).intOf.toNat / 16777216), UInt8.ofNat ((AV.int IntKind.u32 (wrapA IntKind.u32 (AV.int IntKind.i64 s4).intOf)).intOf.toNat / 65536), UInt8.ofNat ((AV.int IntKind.u32 (wrapA IntKind.u32 (AV.int IntKind.i64 s4).intOf)).intOf.toNat / 256), UInt8.ofNat ((AV.int IntKind.u32 (wrapA IntKind.u32 (AV.int IntKind.i64 s4).intOf)).intOf.toNat / 1)])) 0 8) ++ [UInt8.ofNat ((AV.int IntKind.u32 (AV.int IntKind.u32 s6).intOf).intOf.toNat / 16777216), UInt8.ofNat ((AV.int IntKind.u32 (AV.int IntKind.u32 s6).intOf).intOf.toNat / 65536), UInt8.ofNat ((AV.int IntKind.u32 (AV.int IntKind.u32 s6).intOf).intOf.toNat / 256), UInt8.ofNat ((AV.int IntKind.u32 (AV.int IntKind.u32 s6).intOf).intOf.toNat / 1)]))) 0 12) ++ [UInt8.ofNat ((AV.int IntKind.u32 (AV.int IntKind.u32 s7).intOf).intOf.toNat / 16777216), UInt8.ofNat ((AV.int IntKind.u32 (AV.int IntKind.u32 s7).intOf).intOf.toNat / 65536), UInt8.ofNat ((AV.int IntKind.u32 (AV.int IntKind.u32 s7).intOf).intOf.toNat / 256), UInt8.ofNat ((AV.int IntKind.u32 (AV.int IntKind.u32 s7).intOf).intOf.toNat / 1)])) ++ [AV.int IntKind.u8 (wrapA IntKind.u8 (Int.ofNat ll))]) 0 17) ++ [UInt8.ofNat ((wrapA IntKind.u32 (AV.int IntKind.i64 s8).intOf).toNat / 16777216), UInt8.ofNat ((wrapA IntKind.u32 (AV.int IntKind.i64 s8).intOf).toNat / 65536), UInt8.ofNat ((wrapA IntKind.u32 (AV.int IntKind.i64 s8).intOf).toNat / 256), UInt8.ofNat ((wrapA IntKind.u32 (AV.int IntKind.i64 s8).intOf).toNat / 1)]))) 0 21) ++ [UInt8.ofNat ((AV.int IntKind.u32 s9).intOf.toNat / 16777216), UInt8.ofNat ((AV.int IntKind.u32 s9).intOf.toNat / 65536), UInt8.ofNat ((AV.int IntKind.u32 s9).intOf.toNat / 256), UInt8.ofNat ((AV.int IntKind.u32 s9).intOf.toNat / 1)]))) 0 25) ++ [UInt8.ofNat ((AV.int IntKind.u32 s10).intOf.toNat / 16777216), UInt8.ofNat ((AV.int IntKind.u32 s10).intOf.toNat / 65536), UInt8.ofNat ((AV.int IntKind.u32 s10).intOf.toNat / 256), UInt8.ofNat ((AV.int IntKind.u32 s10).intOf.toNat / 1)])))] :=
  call_runZ (q := (oc 46 (.y :: (oc 1 (.y :: (.y :: (oc 7 (.y :: (.y :: (.y :: (oc 1 (.y :: (.y :: (oc 7 (.y :: (.y :: (.y :: (oc 1 (.y :: (.y :: (oc 15 (.y :: (oc 8 (.y :: (oc 1 (.y :: (oc 1 (.y :: (oc 2 (.y :: (oc 1 (.y :: (oc 1 (.y :: (.y :: (oc 1 (.y :: (.y :: (.y :: (oc 3 (.y :: (oc 1 (.y :: (oc 1 (.y :: (oc 9 (.y :: (.y :: (.y :: (.y :: (oc 1 (.y :: (.y :: (oc 1 (.y :: (.y :: (.y :: (oc 1 (.y :: (.y :: (oc 1 (.y :: (.y :: (.y :: (oc 1 (.y :: (.y :: (oc 5 (.y :: (.y :: (oc 5 (.y :: (oc 3 (.y :: (oc 6 (.y :: (oc 3 (.y :: (oc 3 (.y :: (oc 1 []))))))))))))))))))))))))))))))))))))))))))))))))))))))))))))))))))))))))))))))))) (c := (Cnd.tst _ true :: Cnd.tst _ true :: Cnd.tst _ true :: Cnd.tst _ true :: Cnd.tst _ true :: Cnd.tst _ true :: Cnd.tst _ true :: Cnd.tst _ true :: Cnd.tst _ true :: Cnd.tst _ true :: Cnd.tst _ true :: Cnd.tst _ true :: Cnd.tst _ true :: Cnd.code (ZLT.lsumS (flOf tys) ((50, 2), rbL).snd).fst (ZLT.lsumS (flOf tys) ((50, 2), rbL).snd).fst :: Cnd.tst _ true :: Cnd.tst _ true :: Cnd.tst _ true :: Cnd.tst _ true :: Cnd.tst _ true :: Cnd.tst _ true :: Cnd.tst _ true :: Cnd.tst _ true :: Cnd.tst _ true :: Cnd.tst _ true :: Cnd.tst _ true :: Cnd.tst _ true :: Cnd.tst _ true :: Cnd.tst _ true :: Cnd.tst _ true :: Cnd.tst _ true :: Cnd.tst _ true :: Cnd.tst _ true :: Cnd.tst _ true :: Cnd.tst _ true :: Cnd.tst _ true :: Cnd.tst _ true :: Cnd.tst _ true :: Cnd.tst _ true :: Cnd.tst _ true :: Cnd.tst _ true :: Cnd.tst _ true :: Cnd.tst _ true :: Cnd.tst _ true :: Cnd.tst _ true :: Cnd.same (AV.int IntKind.i64 (AV.int IntKind.i64 s8).intOf) (AV.int IntKind.i64 (AV.int IntKind.i64 s8).intOf) :: Cnd.same (AV.int IntKind.u32 (wrapA IntKind.u32 (AV.int IntKind.i64 s8).intOf)) (AV.int IntKind.u32 (wrapA IntKind.u32 (AV.int IntKind.i64 s8).intOf)) :: Cnd.same (AV.int IntKind.u32 (AV.int IntKind.u32 s9).intOf) (AV.int IntKind.u32 (AV.int IntKind.u32 s9).intOf) :: Cnd.same (AV.int IntKind.u32 (AV.int IntKind.u32 s9).intOf) (AV.int IntKind.u32 (AV.int IntKind.u32 s9).intOf) :: Cnd.same (AV.int IntKind.u32 (AV.int IntKind.u32 s10).intOf) (AV.int IntKind.u32 (AV.int IntKind.u32 s10).intOf) :: Cnd.same (AV.int IntKind.u32 (AV.int IntKind.u32 s10).intOf) (AV.int IntKind.u32 (AV.int IntKind.u32 s10).intOf) :: Cnd.same (AV.int IntKind.u32 (AV.int IntKind.u32 s10).intOf) (AV.int IntKind.u32 (AV.int IntKind.u32 s10).intOf) :: [])) (by kernel_rfl) ⟨h0, h1, h2, h3, h4, h5, h6, h7, h8, h9, h10, h11, h12, rfl, h13, h14, h14, h15, h14, h14, h15, h13, h14, h14, h15, h14, h14, h15, h16, h15, h17, h18, h19, h20, h21, h22, h23, h24, h25, h26, h27, h28, h29, h30, rfl, rfl, rfl, rfl, rfl, rfl, rfl, trivial⟩
theorem st_n (s0 : Int) (s1 : Int) (s2 : Int) (s3 : Int) (s4 : Int) (la : Bool) (ll : Nat) (lv : List AV) (s6 : Int) (s7 : Int) (s8 : Int) (s9 : Int) (s10 : Int) (h0 : (u8L [AV.int IntKind.u8 (wrapA IntKind.u8 (AV.int IntKind.i64 s0).intOf), AV.int IntKind.u8 (wrapA IntKind.u8 (AV.int IntKind.i64 s1).intOf), AV.int IntKind.u8 (wrapA IntKind.u8 (AV.int IntKind.i64 s2).intOf), AV.int IntKind.u8 (wrapA IntKind.u8 (AV.int IntKind.i64 s3).intOf)]) = true) (h1 : (ileB (Int.ofNat 0) (AV.int IntKind.u32 (wrapA IntKind.u32 (AV.int IntKind.i64 s4).intOf)).intOf) = true) (h2 : (iltB (AV.int IntKind.u32 (wrapA IntKind.u32 (AV.int IntKind.i64 s4).intOf)).intOf (Int.ofNat 4294967296)) = true) (h3 : (AV.plainL (kept (ofBytes [UInt8.ofNat (AV.int IntKind.u8 (wrapA IntKind.u8 (AV.int IntKind.i64 s0).intOf)).intOf.toNat, UInt8.ofNat (AV.int IntKind.u8 (wrapA IntKind.u8 (AV.int IntKind.i64 s1).intOf)).intOf.toNat, UInt8.ofNat (AV.int IntKind.u8 (wrapA IntKind.u8 (AV.int IntKind.i64 s2).intOf)).intOf.toNat, UInt8.ofNat (AV.int IntKind.u8 (wrapA IntKind.u8 (AV.int IntKind.i64 s3).intOf)).intOf.toNat, UInt8.ofNat ((AV.int IntKind.u32 (wrapA IntKind.u32 (AV.int IntKind.i64 s4).intOf)).intOf.toNat / 16777216), UInt8.ofNat ((AV.int IntKind.u32 (wrapA IntKind.u32 (AV.int IntKind.i64 s4).intOf)).intOf.toNat / 65536), UInt8.ofNat ((AV.int IntKind.u32 (wrapA IntKind.u32 (AV.int IntKind.i64 s4).intOf)).intOf.toNat / 256), UInt8.ofNat ((AV.int IntKind.u32 (wrapA IntKind.u32 (AV.int IntKind.i64 s4).intOf)).intOf.toNat / 1)]))) = true) (h4 : ((rowCut (kept (ofBytes [UInt8.ofNat (AV.int IntKind.u8 (wrapA IntKind.u8 (AV.int IntKind.i64 s0).intOf)).intOf.toNat, UInt8.ofNat (AV.int IntKind.u8 (wrapA IntKind.u8 (AV.int IntKind.i64 s1).intOf)).intOf.toNat, UInt8.ofNat (AV.int IntKind.u8 (wrapA IntKind.u8 (AV.int IntKind.i64 s2).intOf)).intOf.toNat, UInt8.ofNat (AV.int IntKind.u8 (wrapA IntKind.u8 (AV.int IntKind.i64 s3).intOf)).intOf.toNat, UInt8.ofNat ((AV.int IntKind.u32 (wrapA IntKind.u32 (AV.int IntKind.i64 s4).intOf)).intOf.toNat / 16777216), UInt8.ofNat ((AV.int IntKind.u32 (wrapA IntKind.u32 (AV.int IntKind.i64 s4).intOf)).intOf.toNat / 65536), UInt8.ofNat ((AV.int IntKind.u32 (wrapA IntKind.u32 (AV.int IntKind.i64 s4).intOf)).intOf.toNat / 256), UInt8.ofNat ((AV.int IntKind.u32 (wrapA IntKind.u32 (AV.int IntKind.i64 s4).intOf)).intOf.toNat / 1)])) 0 8).length.beq 8) = true) (h5 : (u8L (rowCut (kept (ofBytes [UInt8.ofNat (AV.int IntKind.u8 (wrapA IntKind.u8 (AV.int IntKind.i64 s0).intOf)).intOf.toNat, UInt8.ofNat (AV.int IntKind.u8 (wrapA IntKind.u8 (AV.int IntKind.i64 s1).intOf)).intOf.toNat, UInt8.ofNat (AV.int IntKind.u8 (wrapA IntKind.u8 (AV.int IntKind.i64 s2).intOf)).intOf.toNat, UInt8.ofNat (AV.int IntKind.u8 (wrapA IntKind.u8 (AV.int IntKind.i64 s3).intOf)).intOf.toNat, UInt8.ofNat ((AV.int IntKind.u32 (wrapA IntKind.u32 (AV.int IntKind.i64 s4).intOf)).intOf.toNat / 16777216), UInt8.ofNat ((AV.int IntKind.u32 (wrapA IntKind.u32 (AV.int IntKind.i64 s4).intOf)).intOf.toNat / 65536), UInt8.ofNat ((AV.int IntKind.u32 (wrapA IntKind.u32 (AV.int IntKind.i64 s4).intOf)).intOf.toNat / 256), UInt8.ofNat ((AV.int IntKind.u32 (wrapA IntKind.u32 (AV.int IntKind.i64 s4).intOf)).intOf.toNat / 1)])) 0 8)) = true) (h6 : (ileB (Int.ofNat 0) (AV.int IntKind.u32 (AV.int IntKind.u32 s6).intOf).intOf) = true) (h7 : (iltB (AV.int IntKind.u32 (AV.int IntKind.u32 s6).intOf).intOf (Int.ofNat 4294967296)) = true) (h8 : (AV.plainL (kept (ofBytes (bytesL (rowCut (kept (ofBytes [UInt8.ofNat (AV.int IntKind.u8 (wrapA IntKind.u8 (AV.int IntKind.i64 s0).intOf)).intOf.toNat, UInt8.ofNat (AV.int IntKind.u8 (wrapA IntKind.u8 (AV.int IntKind.i64 s1).intOf)).intOf.toNat, UInt8.ofNat (AV.int IntKind.u8 (wrapA IntKind.u8 (AV.int IntKind.i64 s2).intOf)).intOf.toNat, UInt8.ofNat (AV.int IntKind.u8 (wrapA IntKind.u8 (AV.int IntKind.i64 s3).intOf)).intOf.toNat, UInt8.ofNat ((AV.int IntKind.u32 (wrapA IntKind.u32 (AV.int IntKind.i64 s4).intOf)).intOf.toNat / 16777216), UInt8.ofNat ((AV.int IntKind.u32 (wrapA IntKind.u32 (AV.int IntKind.i64 s4).intOf)).intOf.toNat / 65536), UInt8.ofNat ((AV.int IntKind.u32 (wrapA IntKind.u32 (AV.int IntKind.i64 s4).intOf)).intOf.toNat / 256), UInt8.ofNat ((AV.int IntKind.u32 (wrapA IntKind.u32 (AV.int IntKind.i64 s4).intOf)).intOf.toNat / 1)])) 0 8) ++ [UInt8.ofNat ((AV.int IntKind.u32 (AV.int IntKind.u32 s6).intOf).intOf.toNat / 16777216), UInt8.ofNat ((AV.int IntKind.u32 (AV.int IntKind.u32 s6).intOf).intOf.toNat / 65536), UInt8.ofNat ((AV.int IntKind.u32 (AV.int IntKind.u32 s6).intOf).intOf.toNat / 256), UInt8.ofNat ((AV.int IntKind.u32 (AV.int IntKind.u32 s6).intOf).intOf.toNat / 1)])))) = true) (h9 : ((rowCut (kept (ofBytes (bytesL (rowCut (kept (ofBytes [UInt8.ofNat (AV.int IntKind.u8 (wrapA IntKind.u8 (AV.int IntKind.i64 s0).intOf)).intOf.toNat, UInt8.ofNat (AV.int IntKind.u8 (wrapA IntKind.u8 (AV.int IntKind.i64 s1).intOf)).intOf.toNat, UInt8.ofNat (AV.int IntKind.u8 (wrapA IntKind.u8 (AV.int IntKind.i64 s2).intOf)).intOf.toNat, UInt8.ofNat (AV.int IntKind.u8 (wrapA IntKind.u8 (AV.int IntKind.i64 s3).intOf)).intOf.toNat, UInt8.ofNat ((AV.int IntKind.u32 (wrapA IntKind.u32 (AV.int IntKind.i64 s4).intOf)).intOf.toNat / 16777216), UInt8.ofNat ((AV.int IntKind.u32 (wrapA IntKind.u32 (AV.int IntKind.i64 s4).intOf)).intOf.toNat / 65536), UInt8.ofNat ((AV.int IntKind.u32 (wrapA IntKind.u32 (AV.int IntKind.i64 s4).intOf)).intOf.toNat / 256), UInt8.ofNat ((AV.int IntKind.u32 (wrapA IntKind.u32 (AV.int IntKind.i64 s4).intOf)).intOf.toNat / 1)])) 0 8) ++ [UInt8.ofNat ((AV.int IntKind.u32 (AV.int IntKind.u32 s6).intOf).intOf.toNat / 16777216), UInt8.ofNat ((AV.int IntKind.u32 (AV.int IntKind.u32 s6).intOf).intOf.toNat / 65536), UInt8.ofNat ((AV.int IntKind.u32 (AV.int IntKind.u32 s6).intOf).intOf.toNat / 256), UInt8.ofNat ((AV.int IntKind.u32 (AV.int IntKind.u32 s6).intOf).intOf.toNat / 1)]))) 0 12).length.beq 12) = true) (h10 : (u8L (rowCut (kept (ofBytes (bytesL (rowCut (kept (ofBytes [UInt8.ofNat (AV.int IntKind.u8 (wrapA IntKind.u8 (AV.int IntKind.i64 s0).intOf)).intOf.toNat, UInt8.ofNat (AV.int IntKind.u8 (wrapA IntKind.u8 (AV.int IntKind.i64 s1).intOf)).intOf.toNat, UInt8.ofNat (AV.int IntKind.u8 (wrapA IntKind.u8 (AV.int IntKind.i64 s2).intOf)).intOf.toNat, UInt8.ofNat (AV.int IntKind.u8 (wrapA IntKind.u8 (AV.int IntKind.i64 s3).intOf)).intOf.toNat, UInt8.ofNat ((AV.int IntKind.u32 (wrapA IntKind.u32 (AV.int IntKind.i64 s4).intOf)).intOf.toNat / 16777216), UInt8.ofNat ((AV.int IntKind.u32 (wrapA IntKind.u32 (AV.int IntKind.i64 s4).intOf)).intOf.toNat / 65536), UInt8.ofNat ((AV.int IntKind.u32 (wrapA IntKind.u32 (AV.int IntKind.i64 s4).intOf)).intOf.toNat / 256), UInt8.ofNat ((AV.int IntKind.u32 (wrapA IntKind.u32 (AV.int IntKind.i64 s4).intOf)).intOf.toNat / 1)])) 0 8) ++ [UInt8.ofNat ((AV.int IntKind.u32 (AV.int IntKind.u32 s6).intOf).intOf.toNat / 16777216), UInt8.ofNat ((AV.int IntKind.u32 (AV.int IntKind.u32 s6).intOf).intOf.toNat / 65536), UInt8.ofNat ((AV.int IntKind.u32 (AV.int IntKind.u32 s6).intOf).intOf.toNat / 256), UInt8.ofNat ((AV.int IntKind.u32 (AV.int IntKind.u32 s6).intOf).intOf.toNat / 1)]))) 0 12)) = true) (h11 : (ileB (Int.ofNat 0) (AV.int IntKind.u32 (AV.int IntKind.u32 s7).intOf).intOf) = true) (h12 : (iltB (AV.int IntKind.u32 (AV.int IntKind.u32 s7).intOf).intOf (Int.ofNat 4294967296)) = true) (h13 : (ll.beq 0) = false) (h14 : (AV.plainL lv) = true) (h15 : (AV.plainL (kept (ofBytes (bytesL (rowCut (kept (ofBytes (bytesL (rowCut (kept (ofBytes [UInt8.ofNat (AV.int IntKind.u8 (wrapA IntKind.u8 (AV.int IntKind.i64 s0).intOf)).intOf.toNat, UInt8.ofNat (AV.int IntKind.u8 (wrapA IntKind.u8 (AV.int IntKind.i64 s1).intOf)).intOf.toNat, UInt8.ofNat (AV.int IntKind.u8 (wrapA IntKind.u8 (AV.int IntKind.i64 s2).intOf)).intOf.toNat, UInt8.ofNat (AV.int IntKind.u8 (wrapA IntKind.u8 (AV.int IntKind.i64 s3).intOf)).intOf.toNat, UInt8.ofNat ((AV.int IntKind.u32 (wrapA IntKind.u32 (AV.int IntKind.i64 s4).intOf)).intOf.toNat / 16777216), UInt8.ofNat ((AV.int IntKind.u32 (wrapA IntKind.u32 (AV.int IntKind.i64 s4).intOf)).intOf.toNat / 65536), UInt8.ofNat ((AV.int IntKind.u32 (wrapA IntKind.u32 (AV.int IntKind.i64 s4).intOf)).intOf.toNat / 256), UInt8.ofNat ((AV.int IntKind.u32 (wrapA IntKind.u32 (AV.int IntKind.i64 s4).intOf)).intOf.toNat / 1)])) 0 8) ++ [UInt8.ofNat ((AV.int IntKind.u32 (AV.int IntKind.u32 s6).intOf).intOf.toNat / 16777216), UInt8.ofNat ((AV.int IntKind.u32 (AV.int IntKind.u32 s6).intOf).intOf.toNat / 65536), UInt8.ofNat ((AV.int IntKind.u32 (AV.int IntKind.u32 s6).intOf).intOf.toNat / 256), UInt8.ofNat ((AV.int IntKind.u32 (AV.int IntKind.u32 s6).intOf).intOf.toNat / 1)]))) 0 12) ++ [UInt8.ofNat ((AV.int IntKind.u32 (AV.int IntKind.u32 s7).intOf).intOf.toNat / 16777216), UInt8.ofNat ((AV.int IntKind.u32 (AV.int IntKind.u32 s7).intOf).intOf.toNat / 65536), UInt8.ofNat ((AV.int IntKind.u32 (AV.int IntKind.u32 s7).intOf).intOf.toNat / 256), UInt8.ofNat ((AV.int IntKind.u32 (AV.int IntKind.u32 s7).intOf).intOf.toNat / 1)])) ++ [AV.int IntKind.u8 (wrapA IntKind.u8 (Int.ofNat ll))])) = true) (h16 : (u8L (kept (ofBytes (bytesL (rowCut (kept (ofBytes (bytesL (rowCut (kept (ofBytes [UInt8.ofNat (AV.int IntKind.u8 (wrapA IntKind.u8 (AV.int IntKind.i64 s0).intOf)).intOf.toNat, UInt8.ofNat (AV.int IntKind.u8 (wrapA IntKind.u8 (AV.int IntKind.i64 s1).intOf)).intOf.toNat, UInt8.ofNat (AV.int IntKind.u8 (wrapA IntKind.u8 (AV.int IntKind.i64 s2).intOf)).intOf.toNat, UInt8.ofNat (AV.int IntKind.u8 (wrapA IntKind.u8 (AV.int IntKind.i64 s3).intOf)).intOf.toNat, UInt8.ofNat ((AV.int IntKind.u32 (wrapA IntKind.u32 (AV.int IntKind.i64 s4).intOf)).intOf.toNat / 16777216), UInt8.ofNat ((AV.int IntKind.u32 (wrapA IntKind.u32 (AV.int IntKind.i64 s4).intOf)).intOf.toNat / 65536), UInt8.ofNat ((AV.int IntKind.u32 (wrapA IntKind.u32 (AV.int IntKind.i64 s4).intOf)).intOf.toNat / 256), UInt8.ofNat ((AV.int IntKind.u32 (wrapA IntKind.u32 (AV.int IntKind.i64 s4).intOf)).intOf.toNat / 1)])) 0 8) ++ [UInt8.ofNat ((AV.int IntKind.u32 (AV.int IntKind.u32 s6).intOf).intOf.toNat / 16777216), UInt8.ofNat ((AV.int IntKind.u32 (AV.int IntKind.u32 s6).intOf).intOf.toNat / 65536), UInt8.ofNat ((AV.int IntKind.u32 (AV.int IntKind.u32 s6).intOf).intOf.toNat / 256), UInt8.ofNat ((AV.int IntKind.u32 (AV.int IntKind.u32 s6).intOf).intOf.toNat / 1)]))) 0 12) ++ [UInt8.ofNat ((AV.int IntKind.u32 (AV.int IntKind.u32 s7).intOf).intOf.toNat / 16777216), UInt8.ofNat ((AV.int IntKind.u32 (AV.int IntKind.u32 s7).intOf).intOf.toNat / 65536), UInt8.ofNat ((AV.int IntKind.u32 (AV.int IntKind.u32 s7).intOf).intOf.toNat / 256), UInt8.ofNat ((AV.int IntKind.u32 (AV.int IntKind.u32 s7).intOf).intOf.toNat / 1)])) ++ [AV.int IntKind.u8 (wrapA IntKind.u8 (Int.ofNat ll))])) = true) (h17 : ((kept (ofBytes (bytesL (rowCut (kept (ofBytes (bytesL (rowCut (kept (ofBytes [UInt8.ofNat (AV.int IntKind.u8 (wrapA IntKind.u8 (AV.int IntKind.i64 s0).intOf)).intOf.toNat, UInt8.ofNat (AV.int IntKind.u8 (wrapA IntKind.u8 (AV.int IntKind.i64 s1).intOf)).intOf.toNat, UInt8.ofNat (AV.int IntKind.u8 (wrapA IntKind.u8 (AV.int IntKind.i64 s2).intOf)).intOf.toNat, UInt8.ofNat (AV.int IntKind.u8 (wrapA IntKind.u8 (AV.int IntKind.i64 s3).intOf)).intOf.toNat, UInt8.ofNat ((AV.int IntKind.u32 (wrapA IntKind.u32 (AV.int IntKind.i64 s4).intOf)).intOf.toNat / 16777216), UInt8.ofNat ((AV.int IntKind.u32 (wrapA IntKind.u32 (AV.int IntKind.i64 s4).intOf)).intOf.toNat / 65536), UInt8.ofNat ((AV.int IntKind.u32 (wrapA IntKind.u32 (AV.int IntKind.i64 s4).intOf)).intOf.toNat / 256), UInt8.ofNat ((AV.int IntKind.u32 (wrapA IntKind.u32 (AV.int IntKind.i64 s4).intOf)).intOf.toNat / 1)])) 0 8) ++ [UInt8.ofNat ((AV.int IntKind.u32 (AV.int IntKind.u32 s6).intOf).intOf.toNat / 16777216), UInt8.ofNat ((AV.int IntKind.u32 (AV.int IntKind.u32 s6).intOf).intOf.toNat / 65536), UInt8.ofNat ((AV.int IntKind.u32 (AV.int IntKind.u32 s6).intOf).intOf.toNat / 256), UInt8.ofNat ((AV.int IntKind.u32 (AV.int IntKind.u32 s6).intOf).intOf.toNat / 1)]))) 0 12) ++ [UInt8.ofNat ((AV.int IntKind.u32 (AV.int IntKind.u32 s7).intOf).intOf.toNat / 16777216), UInt8.ofNat ((AV.int IntKind.u32 (AV.int IntKind.u32 s7).intOf).intOf.toNat / 65536), UInt8.ofNat ((AV.int IntKind.u32 (AV.int IntKind.u32 s7).intOf).intOf.toNat / 256), UInt8.ofNat ((AV.int IntKind.u32 (AV.int IntKind.u32 s7).intOf).intOf.toNat / 1)])) ++ [AV.int IntKind.u8 (wrapA IntKind.u8 (Int.ofNat ll))]).length.beq 17) = true) (h18 : (isZ lv) = true) (h19 : (lv.length.beq ll) = true) (h20 : (ll.beq ll) = true) (h21 : (Nat.ble 1 ll) = true) (h22 : (ll.ble 20) = true) (h23 : (AV.plainL (kept (ofBytes (bytesL (kept (ofBytes (bytesL (rowCut (kept (ofBytes (bytesL (rowCut (kept (ofBytes [UInt8.ofNat (AV.int IntKind.u8 (wrapA IntKind.u8 (AV.int IntKind.i64 s0).intOf)).intOf.toNat, UInt8.ofNat (AV.int IntKind.u8 (wrapA IntKind.u8 (AV.int IntKind.i64 s1).intOf)).intOf.toNat, UInt8.ofNat (AV.int IntKind.u8 (wrapA IntKind.u8 (AV.int IntKind.i64 s2).intOf)).intOf.toNat, UInt8.ofNat (AV.int IntKind.u8 (wrapA IntKind.u8 (AV.int IntKind.i64 s3).intOf)).intOf.toNat, UInt8.ofNat ((AV.int IntKind.u32 (wrapA IntKind.u32 (AV.int IntKind.i64 s4).intOf)).intOf.toNat / 16777216), UInt8.ofNat ((AV.int IntKind.u32 (wrapA IntKind.u32 (AV.int IntKind.i64 s4).intOf)).intOf.toNat / 65536), UInt8.ofNat ((AV.int IntKind.u32 (wrapA IntKind.u32 (AV.int IntKind.i64 s4).intOf)).intOf.toNat / 256), UInt8.ofNat ((AV.int IntKind.u32 (wrapA IntKind.u32 (AV.int IntKind.i64 s4).intOf)).intOf.toNat / 1)])) 0 8) ++ [UInt8.ofNat ((AV.int IntKind.u32 (AV.int IntKind.u32 s6).intOf).intOf.toNat / 16777216), UInt8.ofNat ((AV.int IntKind.u32 (AV.int IntKind.u32 s6).intOf).intOf.toNat / 65536), UInt8.ofNat ((AV.int IntKind.u32 (AV.int IntKind.u32 s6).intOf).intOf.toNat / 256), UInt8.ofNat ((AV.int IntKind.u32 (AV.int IntKind.u32 s6).intOf).intOf.toNat / 1)]))) 0 12) ++ [UInt8.ofNat ((AV.int IntKind.u32 (AV.int IntKind.u32 s7).intOf).intOf.toNat / 16777216), UInt8.ofNat ((AV.int IntKind.u32 (AV.int IntKind.u32 s7).intOf).intOf.toNat / 65536), UInt8.ofNat ((AV.int IntKind.u32 (AV.int IntKind.u32 s7).intOf).intOf.toNat / 256), UInt8.ofNat ((AV.int IntKind.u32 (AV.int IntKind.u32 s7).intOf).intOf.toNat / 1)])) ++ [AV.int IntKind.u8 (wrapA IntKind.u8 (Int.ofNat ll))]) ++ livB (intsZ lv))))) = true) (h24 : ((0 + (17 + ll) * 1).ble (17 + ll)) = true) (h25 : ((rowCut (kept (ofBytes (bytesL (kept (ofBytes (bytesL (rowCut (kept (ofBytes (bytesL (rowCut (kept (ofBytes [UInt8.ofNat (AV.int IntKind.u8 (wrapA IntKind.u8 (AV.int IntKind.i64 s0).intOf)).intOf.toNat, UInt8.ofNat (AV.int IntKind.u8 (wrapA IntKind.u8 (AV.int IntKind.i64 s1).intOf)).intOf.toNat, UInt8.ofNat (AV.int IntKind.u8 (wrapA IntKind.u8 (AV.int IntKind.i64 s2).intOf)).intOf.toNat, UInt8.ofNat (AV.int IntKind.u8 (wrapA IntKind.u8 (AV.int IntKind.i64 s3).intOf)).intOf.toNat, UInt8.ofNat ((AV.int IntKind.u32 (wrapA IntKind.u32 (AV.int IntKind.i64 s4).intOf)).intOf.toNat / 16777216), UInt8.ofNat ((AV.int IntKind.u32 (wrapA IntKind.u32 (AV.int IntKind.i64 s4).intOf)).intOf.toNat / 65536), UInt8.ofNat ((AV.int IntKind.u32 (wrapA IntKind.u32 (AV.int IntKind.i64 s4).intOf)).intOf.toNat / 256), UInt8.ofNat ((AV.int IntKind.u32 (wrapA IntKind.u32 (AV.int IntKind.i64 s4).intOf)).intOf.toNat / 1)])) 0 8) ++ [UInt8.ofNat ((AV.int IntKind.u32 (AV.int IntKind.u32 s6).intOf).intOf.toNat / 16777216), UInt8.ofNat ((AV.int IntKind.u32 (AV.int IntKind.u32 s6).intOf).intOf.toNat / 65536), UInt8.ofNat ((AV.int IntKind.u32 (AV.int IntKind.u32 s6).intOf).intOf.toNat / 256), UInt8.ofNat ((AV.int IntKind.u32 (AV.int IntKind.u32 s6).intOf).intOf.toNat / 1)]))) 0 12) ++ [UInt8.ofNat ((AV.int IntKind.u32 (AV.int IntKind.u32 s7).intOf).intOf.toNat / 16777216), UInt8.ofNat ((AV.int IntKind.u32 (AV.int IntKind.u32 s7).intOf).intOf.toNat / 65536), UInt8.ofNat ((AV.int IntKind.u32 (AV.int IntKind.u32 s7).intOf).intOf.toNat / 256), UInt8.ofNat ((AV.int IntKind.u32 (AV.int IntKind.u32 s7).intOf).intOf.toNat / 1)])) ++ [AV.int IntKind.u8 (wrapA IntKind.u8 (Int.ofNat ll))]) ++ livB (intsZ lv)))) 0 ((17 + ll) * 1)).length.beq (17 + ll)) = true) (h26 : (u8L (rowCut (kept (ofBytes (bytesL (kept (ofBytes (bytesL (rowCut (kept (ofBytes (bytesL (rowCut (kept (ofBytes [UInt8.ofNat (AV.int IntKind.u8 (wrapA IntKind.u8 (AV.int IntKind.i64 s0).intOf)).intOf.toNat, UInt8.ofNat (AV.int IntKind.u8 (wrapA IntKind.u8 (AV.int IntKind.i64 s1).intOf)).intOf.toNat, UInt8.ofNat (AV.int IntKind.u8 (wrapA IntKind.u8 (AV.int IntKind.i64 s2).intOf)).intOf.toNat, UInt8.ofNat (AV.int IntKind.u8 (wrapA IntKind.u8 (AV.int IntKind.i64 s3).intOf)).intOf.toNat, UInt8.ofNat ((AV.int IntKind.u32 (wrapA IntKind.u32 (AV.int IntKind.i64 s4).intOf)).intOf.toNat / 16777216), UInt8.ofNat ((AV.int IntKind.u32 (wrapA IntKind.u32 (AV.int IntKind.i64 s4).intOf)).intOf.toNat / 65536), UInt8.ofNat ((AV.int IntKind.u32 (wrapA IntKind.u32 (AV.int IntKind.i64 s4).intOf)).intOf.toNat / 256), UInt8.ofNat ((AV.int IntKind.u32 (wrapA IntKind.u32 (AV.int IntKind.i64 s4).intOf)).intOf.toNat / 1)])) 0 8) ++ [UInt8.ofNat ((AV.int IntKind.u32 (AV.int IntKind.u32 s6).intOf).intOf.toNat / 16777216), UInt8.ofNat ((AV.int IntKind.u32 (AV.int IntKind.u32 s6).intOf).intOf.toNat / 65536), UInt8.ofNat ((AV.int IntKind.u32 (AV.int IntKind.u32 s6).intOf).intOf.toNat / 256), UInt8.ofNat ((AV.int IntKind.u32 (AV.int IntKind.u32 s6).intOf).intOf.toNat / 1)]))) 0 12) ++ [UInt8.ofNat ((AV.int IntKind.u32 (AV.int IntKind.u32 s7).intOf).intOf.toNat / 16777216), UInt8.ofNat ((AV.int IntKind.u32 (AV.int IntKind.u32 s7).intOf).intOf.toNat / 65536), UInt8.ofNat ((AV.int IntKind.u32 (AV.int IntKind.u32 s7).intOf).intOf.toNat / 256), UInt8.ofNat ((AV.int IntKind.u32 (AV.int IntKind.u32 s7).intOf).intOf.toNat / 1)])) ++ [AV.int IntKind.u8 (wrapA IntKind.u8 (Int.ofNat ll))]) ++ livB (intsZ lv)))) 0 ((17 + ll) * 1))) = true) (h27 : ((17 + ll).ble 1000000000000) = true) (h28 : (ileB (Int.ofNat 0) (wrapA IntKind.u32 (AV.int IntKind.i64 s8).intOf)) = true) (h29 : (iltB (wrapA IntKind.u32 (AV.int IntKind.i64 s8).intOf) (Int.ofNat 4294967296)) = true) (h30 : ((0 + (17 + ll + 4) * 1).ble (17 + ll + 4)) = true) (h31 : (AV.plainL (kept (ofBytes (bytesL (rowCut (kept (ofBytes (bytesL (kept (ofBytes (bytesL (rowCut (kept (ofBytes (bytesL (rowCut (kept (ofBytes [UInt8.ofNat (AV.int IntKind.u8 (wrapA IntKind.u8 (AV.int IntKind.i64 s0).intOf)).intOf.toNat, UInt8.ofNat (AV.int IntKind.u8 (wrapA IntKind.u8 (AV.int IntKind.i64 s1).intOf)).intOf.toNat, UInt8.ofNat (AV.int IntKind.u8 (wrapA IntKind.u8 (AV.int IntKind.i64 s2).intOf)).intOf.toNat, UInt8.ofNat (AV.int IntKind.u8 (wrapA IntKind.u8 (AV.int IntKind.i64 s3).intOf)).intOf.toNat, UInt8.ofNat ((AV.int IntKind.u32 (wrapA IntKind.u32 (AV.int IntKind.i64 s4).intOf)).intOf.toNat / 16777216), UInt8.ofNat ((AV.int IntKind.u32 (wrapA IntKind.u32 (AV.int IntKind.i64 s4).intOf)).intOf.toNat / 65536), UInt8.ofNat ((AV.int IntKind.u32 (wrapA IntKind.u32 (AV.int IntKind.i64 s4).intOf)).intOf.toNat / 256), UInt8.ofNat ((AV.int IntKind.u32 (wrapA IntKind.u32 (AV.int IntKind.i64 s4).intOf)).intOf.toNat / 1)])) 0 8) ++ [UInt8.ofNat ((AV.int IntKind.u32 (AV.int IntKind.u32 s6).intOf).intOf.toNat / 16777216), UInt8.ofNat ((AV.int IntKind.u32 (AV.int IntKind.u32 s6).intOf).intOf.toNat / 65536), UInt8.ofNat ((AV.int IntKind.u32 (AV.int IntKind.u32 s6).intOf).intOf.toNat / 256), UInt8.ofNat ((AV.int IntKind.u32 (AV.int IntKind.u32 s6).intOf).intOf.toNat / 1)]))) 0 12) ++ [UInt8.ofNat ((AV.int IntKind.u32 (AV.int IntKind.u32 s7).intOf).intOf.toNat / 16777216), UInt8.ofNat ((AV.int IntKind.u32 (AV.int IntKind.u32 s7).intOf).intOf.toNat / 65536), UInt8.ofNat ((AV.int IntKind.u32 (AV.int IntKind.u32 s7).intOf).intOf.toNat / 256), UInt8.ofNat ((AV.int IntKind.u32 (AV.int IntKind.u32 s7).intOf).intOf.toNat / 1)])) ++ [AV.int IntKind.u8 (wrapA IntKind.u8 (Int.ofNat ll))]) ++ livB (intsZ lv)))) 0 ((17 + ll) * 1)) ++ [UInt8.ofNat ((wrapA IntKind.u32 (AV.int IntKind.i64 s8).intOf).toNat / 16777216), UInt8.ofNat ((wrapA IntKind.u32 (AV.int IntKind.i64 s8).intOf).toNat / 65536), UInt8.ofNat ((wrapA IntKind.u32 (AV.int IntKind.i64 s8).intOf).toNat / 256), UInt8.ofNat ((wrapA IntKind.u32 (AV.int IntKind.i64 s8).intOf).toNat / 1)])))) = true) (h32 : ((rowCut (kept (ofBytes (bytesL (rowCut (kept (ofBytes (bytesL (kept (ofBytes (bytesL (rowCut (kept (ofBytes (bytesL (rowCut (kept (ofBytes [UInt8.ofNat (AV.int IntKind.u8 (wrapA IntKind.u8 (AV.int IntKind.i64 s0).intOf)).intOf.toNat, UInt8.ofNat (AV.int IntKind.u8 (wrapA IntKind.u8 (AV.int IntKind.i64 s1).intOf)).intOf.toNat, UInt8.ofNat (AV.int IntKind.u8 (wrapA IntKind.u8 (AV.int IntKind.i64 s2).intOf)).intOf.toNat, UInt8.ofNat (AV.int IntKind.u8 (wrapA IntKind.u8 (AV.int IntKind.i64 s3).intOf)).intOf.toNat, UInt8.ofNat ((AV.int IntKind.u32 (wrapA IntKind.u32 (AV.int IntKind.i64 s4).intOf)).intOf.toNat / 16777216), UInt8.ofNat ((AV.int IntKind.u32 (wrapA IntKind.u32 (AV.int IntKind.i64 s4).intOf)).intOf.toNat / 65536), UInt8.ofNat ((AV.int IntKind.u32 (wrapA IntKind.u32 (AV.int IntKind.i64 s4).intOf)).intOf.toNat / 256), UInt8.ofNat ((AV.int IntKind.u32 (wrapA IntKind.u32 (AV.int IntKind.i64 s4).intOf)).intOf.toNat / 1)])) 0 8) ++ [UInt8.ofNat ((AV.int IntKind.u32 (AV.int IntKind.u32 s6).intOf).intOf.toNat / 16777216), UInt8.ofNat ((AV.int IntKind.u32 (AV.int IntKind.u32 s6).intOf).intOf.toNat / 65536), UInt8.ofNat ((AV.int IntKind.u32 (AV.int IntKind.u32 s6).intOf).intOf.toNat / 256), UInt8.ofNat ((AV.int IntKind.u32 (AV.int IntKind.u32 s6).intOf).intOf.toNat / 1)]))) 0 12) ++ [UInt8.ofNat ((AV.int IntKind.u32 (AV.int IntKind.u32 s7).intOf).intOf.toNat / 16777216), UInt8.ofNat ((AV.int IntKind.u32 (AV.int IntKind.u32 s7).intOf).intOf.toNat / 65536), UInt8.ofNat ((AV.int IntKind.u32 (AV.int IntKind.u32 s7).intOf).intOf.toNat / 256), UInt8.ofNat ((AV.int IntKind.u32 (AV.int IntKind.u32 s7).intOf).intOf.toNat / 1)])) ++ [AV.int IntKind.u8 (wrapA IntKind.u8 (Int.ofNat ll))]) ++ livB (intsZ lv)))) 0 ((17 + ll) * 1)) ++ [UInt8.ofNat ((wrapA IntKind.u32 (AV.int IntKind.i64 s8).intOf).toNat / 16777216), UInt8.ofNat ((wrapA IntKind.u32 (AV.int IntKind.i64 s8).intOf).toNat / 65536), UInt8.ofNat ((wrapA IntKind.u32 (AV.int IntKind.i64 s8).intOf).toNat / 256), UInt8.ofNat ((wrapA IntKind.u32 (AV.int IntKind.i64 s8).intOf).toNat / 1)]))) 0 ((17 + ll + 4) * 1)).length.beq (17 + ll + 4)) = true) (h33 : (u8L (rowCut (kept (ofBytes (bytesL (rowCut (kept (ofBytes (bytesL (kept (ofBytes (bytesL (rowCut (kept (ofBytes (bytesL (rowCut (kept (ofBytes [UInt8.ofNat (AV.int IntKind.u8 (wrapA IntKind.u8 (AV.int IntKind.i64 s0).intOf)).intOf.toNat, UInt8.ofNat (AV.int IntKind.u8 (wrapA IntKind.u8 (AV.int IntKind.i64 s1).intOf)).intOf.toNat, UInt8.ofNat (AV.int IntKind.u8 (wrapA IntKind.u8 (AV.int IntKind.i64 s2).intOf)).intOf.toNat, UInt8.ofNat (AV.int IntKind.u8 (wrapA IntKind.u8 (AV.int IntKind.i64 s3).intOf)).intOf.toNat, UInt8.ofNat ((AV.int IntKind.u32 (wrapA IntKind.u32 (AV.int IntKind.i64 s4).intOf)).intOf.toNat / 16777216), UInt8.ofNat ((AV.int IntKind.u32 (wrapA IntKind.u32 (AV.int IntKind.i64 s4).intOf)).intOf.toNat / 65536), UInt8.ofNat ((AV.int IntKind.u32 (wrapA IntKind.u32 (AV.int IntKind.i64 s4).intOf)).intOf.toNat / 256), UInt8.ofNat ((AV.int IntKind.u32 (wrapA IntKind.u32 (AV.int IntKind.i64 s4).intOf)).intOf.toNat / 1)])) 0 8) ++ [UInt8.ofNat ((AV.int IntKind.u32 (AV.int IntKind.u32 s6).intOf).intOf.toNat / 16777216), UInt8.ofNat ((AV.int IntKind.u32 (AV.int IntKind.u32 s6).intOf).intOf.toNat / 65536), UInt8.ofNat ((AV.int IntKind.u32 (AV.int IntKind.u32 s6).intOf).intOf.toNat / 256), UInt8.ofNat ((AV.int IntKind.u32 (AV.int IntKind.u32 s6).intOf).intOf.toNat / 1)]))) 0 12) ++ [UInt8.ofNat ((AV.int IntKind.u32 (AV.int IntKind.u32 s7).intOf).intOf.toNat / 16777216), UInt8.ofNat ((AV.int IntKind.u32 (AV.int IntKind.u32 s7).intOf).intOf.toNat / 65536), UInt8.ofNat ((AV.int IntKind.u32 (AV.int IntKind.u32 s7).intOf).intOf.toNat / 256), UInt8.ofNat ((AV.int IntKind.u32 (AV.int IntKind.u32 s7).intOf).intOf.toNat / 1)])) ++ [AV.int IntKind.u8 (wrapA IntKind.u8 (Int.ofNat ll))]) ++ livB (intsZ lv)))) 0 ((17 + ll) * 1)) ++ [UInt8.ofNat ((wrapA IntKind.u32 (AV.int IntKind.i64 s8).intOf).toNat / 16777216), UInt8.ofNat ((wrapA IntKind.u32 (AV.int IntKind.i64 s8).intOf).toNat / 65536), UInt8.ofNat ((wrapA IntKind.u32 (AV.int IntKind.i64 s8).intOf).toNat / 256), UInt8.ofNat ((wrapA IntKind.u32 (AV.int IntKind.i64 s8).intOf).toNat / 1)]))) 0 ((17 + ll + 4) * 1))) = true) (h34 : ((17 + ll + 4).ble 1000000000000) = true) (h35 : (ileB (Int.ofNat 0) (AV.int IntKind.u32 s9).intOf) = true) (h36 : (iltB (AV.int IntKind.u32 s9).intOf (Int.ofNat 4294967296)) = true) (h37 : ((0 + (17 + ll + 4 + 4) * 1).ble (17 + ll + 4 + 4)) = true) (h38 : (AV.plainL (kept (ofBytes (bytesL (rowCut (kept (ofBytes (bytesL (rowCut (kept (ofBytes (bytesL (kept (ofBytes (bytesL (rowCut (kept (ofBytes (bytesL (rowCut (kept (ofBytes [UInt8.ofNat (AV.int IntKind.u8 (wrapA IntKind.u8 (AV.int IntKind.i64 s0).intOf)).intOf.toNat, UInt8.ofNat (AV.int IntKind.u8 (wrapA IntKind.u8 (AV.int IntKind.i64 s1).intOf)).intOf.toNat, UInt8.ofNat (AV.int IntKind.u8 (wrapA IntKind.u8 (AV.int IntKind.i64 s2).intOf)).intOf.toNat, UInt8.ofNat (AV.int IntKind.u8 (wrapA IntKind.u8 (AV.int IntKind.i64 s3).intOf)).intOf.toNat, UInt8.ofNat ((AV.int IntKind.u32 (wrapA IntKind.u32 (AV.int IntKind.i64 s4).intOf)).intOf.toNat / 16777216), UInt8.ofNat ((AV.int IntKind.u32 (wrapA IntKind.u32 (AV.int IntKind.i64 s4).intOf)).intOf.toNat / 65536), UInt8.ofNat ((AV.int IntKind.u32 (wrapA IntKind.u32 (AV.int IntKind.i64 s4).intOf)).intOf.toNat / 256), UInt8.ofNat ((AV.int IntKind.u32 (wrapA IntKind.u32 (AV.int IntKind.i64 s4).intOf)).intOf.toNat / 1)])) 0 8) ++ [UInt8.ofNat ((AV.int IntKind.u32 (AV.int IntKind.u32 s6).intOf).intOf.toNat / 16777216), UInt8.ofNat ((AV.int IntKind.u32 (AV.int IntKind.u32 s6).intOf).intOf.toNat / 65536), UInt8.ofNat ((AV.int IntKind.u32 (AV.int IntKind.u32 s6).intOf).intOf.toNat / 256), UInt8.ofNat ((AV.int IntKind.u32 (AV.int IntKind.u32 s6).intOf).intOf.toNat / 1)]))) 0 12) ++ [UInt8.ofNat ((AV.int IntKind.u32 (AV.int IntKind.u32 s7).intOf).intOf.toNat / 16777216), UInt8.ofNat ((AV.int IntKind.u32 (AV.int IntKind.u32 s7).intOf).intOf.toNat / 65536), UInt8.ofNat ((AV.int IntKind.u32 (AV.int IntKind.u32 s7).intOf).intOf.toNat / 256), UInt8.ofNat ((AV.int IntKind.u32 (AV.int IntKind.u32 s7).intOf).intOf.toNat / 1)])) ++ [AV.int IntKind.u8 (wrapA IntKind.u8 (Int.ofNat ll))]) ++ livB (intsZ lv)))) 0 ((17 + ll) * 1)) ++ [UInt8.ofNat ((wrapA IntKind.u32 (AV.int IntKind.i64 s8).intOf).toNat / 16777216), UInt8.ofNat ((wrapA IntKind.u32 (AV.int IntKind.i64 s8).intOf).toNat / 65536), UInt8.ofNat ((wrapA IntKind.u32 (AV.int IntKind.i64 s8).intOf).toNat / 256), UInt8.ofNat ((wrapA IntKind.u32 (AV.int IntKind.i64 s8).intOf).toNat / 1)]))) 0 ((17 + ll + 4) * 1)) ++ [UInt8.ofNat ((AV.int IntKind.u32 s9).intOf.toNat / 16777216), UInt8.ofNat ((AV.int IntKind.u32 s9).intOf.toNat / 65536), UInt8.ofNat ((AV.int IntKind.u32 s9).intOf.toNat / 256), UInt8.ofNat ((AV.int IntKind.u32 s9).intOf.toNat / 1)])))) = true) (h39 : ((rowCut (kept (ofBytes (bytesL (rowCut (kept (ofBytes (bytesL (rowCut (kept (ofBytes (bytesL (kept (ofBytes (bytesL (rowCut (kept (ofBytes (bytesL (rowCut (kept (ofBytes [UInt8.ofNat (AV.int IntKind.u8 (wrapA IntKind.u8 (AV.int IntKind.i64 s0).intOf)).intOf.toNat, UInt8.ofNat (AV.int IntKind.u8 (wrapA IntKind.u8 (AV.int IntKind.i64 s1).intOf)).intOf.toNat, UInt8.ofNat (AV.int IntKind.u8 (wrapA IntKind.u8 (AV.int IntKind.i64 s2).intOf)).intOf.toNat, UInt8.ofNat (AV.int IntKind.u8 (wrapA IntKind.u8 (AV.int IntKind.i64 s3).intOf)).intOf.toNat, UInt8.ofNat ((AV.int IntKind.u32 (wrapA IntKind.u32 (AV.int IntKind.i64 s4).intOf)).intOf.toNat / 16777216), UInt8.ofNat ((AV.int IntKind.u32 (wrapA IntKind.u32 (AV.int IntKind.i64 s4).intOf)).intOf.toNat / 65536), UInt8.ofNat ((AV.int IntKind.u32 (wrapA IntKind.u32 (AV.int IntKind.i64 s4).intOf)).intOf.toNat / 256), UInt8.ofNat ((AV.int IntKind.u32 (wrapA IntKind.u32 (AV.int IntKind.i64 s4).intOf)).intOf.toNat / 1)])) 0 8) ++ [UInt8.ofNat ((AV.int IntKind.u32 (AV.int IntKind.u32 s6).intOf).intOf.toNat / 16777216), UInt8.ofNat ((AV.int IntKind.u32 (AV.int IntKind.u32 s6).intOf).intOf.toNat / 65536), UInt8.ofNat ((AV.int IntKind.u32 (AV.int IntKind.u32 s6).intOf).intOf.toNat / 256), UInt8.ofNat ((AV.int IntKind.u32 (AV.int IntKind.u32 s6).intOf).intOf.toNat / 1)]))) 0 12) ++ [UInt8.ofNat ((AV.int IntKind.u32 (AV.int IntKind.u32 s7).intOf).intOf.toNat / 16777216), UInt8.ofNat ((AV.int IntKind.u32 (AV.int IntKind.u32 s7).intOf).intOf.toNat / 65536), UInt8.ofNat ((AV.int IntKind.u32 (AV.int IntKind.u32 s7).intOf).intOf.toNat / 256), UInt8.ofNat ((AV.int IntKind.u32 (AV.int IntKind.u32 s7).intOf).intOf.toNat / 1)])) ++ [AV.int IntKind.u8 (wrapA IntKind.u8 (Int.ofNat ll))]) ++ livB (intsZ lv)))) 0 ((17 + ll) * 1)) ++ [UInt8.ofNat ((wrapA IntKind.u32 (AV.int IntKind.i64 s8).intOf).toNat / 16777216), UInt8.ofNat ((wrapA IntKind.u32 (AV.int IntKind.i64 s8).intOf).toNat / 65536), UInt8.ofNat ((wrapA IntKind.u32 (AV.int IntKind.i64 s8).intOf).toNat / 256), UInt8.ofNat ((wrapA IntKind.u32 (AV.int IntKind.i64 s8).intOf).toNat / 1)]))) 0 ((17 + ll + 4) * 1)) ++ [UInt8.ofNat ((AV.int IntKind.u32 s9).intOf.toNat / 16777216), UInt8.ofNat ((AV.int IntKind.u32 s9).intOf.toNat / 65536), UInt8.ofNat ((AV.int IntKind.u32 s9).intOf.toNat / 256), UInt8.ofNat ((AV.int IntKind.u32 s9).intOf.toNat / 1)]))) 0 ((17 + ll + 4 + 4) * 1)).length.beq (17 + ll + 4 + 4)) = true) (h40 : (u8L (rowCut (kept (ofBytes (bytesL (rowCut (kept (ofBytes (bytesL (rowCut (kept (ofBytes (bytesL (kept (ofBytes (bytesL (rowCut (kept (ofBytes (bytesL (rowCut (kept (ofBytes [UInt8.ofNat (AV.int IntKind.u8 (wrapA IntKind.u8 (AV.int IntKind.i64 s0).intOf)).intOf.toNat, UInt8.ofNat (AV.int IntKind.u8 (wrapA IntKind.u8 (AV.int IntKind.i64 s1).intOf)).intOf.toNat, UInt8.ofNat (AV.int IntKind.u8 (wrapA IntKind.u8 (AV.int IntKind.i64 s2).intOf)).intOf.toNat, UInt8.ofNat (AV.int IntKind.u8 (wrapA IntKind.u8 (AV.int IntKind.i64 s3).intOf)).intOf.toNat, UInt8.ofNat ((AV.int IntKind.u32 (wrapA IntKind.u32 (AV.int IntKind.i64 s4).intOf)).intOf.toNat / 16777216), UInt8.ofNat ((AV.int IntKind.u32 (wrapA IntKind.u32 (AV.int IntKind.i64 s4).intOf)).intOf.toNat / 65536), UInt8.ofNat ((AV.int IntKind.u32 (wrapA IntKind.u32 (AV.int IntKind.i64 s4).intOf)).intOf.toNat / 256), UInt8.ofNat ((AV.int IntKind.u32 (wrapA IntKind.u32 (AV.int IntKind.i64 s4).intOf)).intOf.toNat / 1)])) 0 8) ++ [UInt8.ofNat ((AV.int IntKind.u32 (AV.int IntKind.u32 s6).intOf).intOf.toNat / 16777216), UInt8.ofNat ((AV.int IntKind.u32 (AV.int IntKind.u32 s6).intOf).intOf.toNat / 65536), UInt8.ofNat ((AV.int IntKind.u32 (AV.int IntKind.u32 s6).intOf).intOf.toNat / 256), UInt8.ofNat ((AV.int IntKind.u32 (AV.int IntKind.u32 s6).intOf).intOf.toNat / 1)]))) 0 12) ++ [UInt8.ofNat ((AV.int IntKind.u32 (AV.int IntKind.u32 s7).intOf).intOf.toNat / 16777216), UInt8.ofNat ((AV.int IntKind.u32 (AV.int IntKind.u32 s7).intOf).intOf.toNat / 65536), UInt8.ofNat ((AV.int IntKind.u32 (AV.int IntKind.u32 s7).intOf).intOf.toNat / 256), UInt8.ofNat ((AV.int IntKind.u32 (AV.int IntKind.u32 s7).intOf).intOf.toNat / 1)])) ++ [AV.int IntKind.u8 (wrapA IntKind.u8 (Int.ofNat ll))]) ++ livB (intsZ lv)))) 0 ((17 + ll) * 1)) ++ [UInt8.ofNat ((wrapA IntKind.u32 (AV.int IntKind.i64 s8).intOf).toNat / 16777216), UInt8.ofNat ((wrapA IntKind.u32 (AV.int IntKind.i64 s8).intOf).toNat / 65536), UInt8.ofNat ((wrapA IntKind.u32 (AV.int IntKind.i64 s8).intOf).toNat / 256), UInt8.ofNat ((wrapA IntKind.u32 (AV.int IntKind.i64 s8).intOf).toNat / 1)]))) 0 ((17 + ll + 4) * 1)) ++ [UInt8.ofNat ((AV.int IntKind.u32 s9).intOf.toNat / 16777216), UInt8.ofNat ((AV.int IntKind.u32 s9).intOf.toNat / 65536), UInt8.ofNat ((AV.int IntKind.u32 s9).intOf.toNat / 256), UInt8.ofNat ((AV.int IntKind.u32 s9).intOf.toNat / 1)]))) 0 ((17 + ll + 4 + 4) * 1))) = true) (h41 : ((17 + ll + 4 + 4).ble 1000000000000) = true) (h42 : (ileB (Int.ofNat 0) (AV.int IntKind.u32 s10).intOf) = true) (h43 : (iltB (AV.int IntKind.u32 s10).intOf (Int.ofNat 4294967296)) = true) :
    ∃ h', aCall C9c 60 (Tgt.fn 50) [AV.agg [AV.int IntKind.i64 s0, AV.int IntKind.i64 s1, AV.int IntKind.i64 s2, AV.int IntKind.i64 s3, AV.int IntKind.i64 s4, AV.fsl la ll lv, AV.int IntKind.u32 s6, AV.int IntKind.u32 s7, AV.int IntKind.i64 s8, AV.int IntKind.u32 s9, AV.int IntKind.u32 s10]] H0 = some (AV.slice (some (11, 0)) (17 + ll + 4 + 4 + 4) none, h') ∧ [11].map h'.get = [Blk.cells true 5 (17 + ll + 4 + 4 + 4) (kept (ofBytes (bytesL (rowCut (kept (ofBytes (bytesL (rowCut (kept (ofBytes (bytesL (rowCut (kept (ofBytes (bytesL (kept (ofBytes (bytesL (rowCut (kept (ofBytes (bytesL (rowCut (kept (ofBytes [UInt8.ofNat (AV.int IntKind.u8 (wrapA IntKind.u8 (AV.int IntKind.i64 s0).intOf)).intOf.toNat, UInt8.ofNat (AV.int IntKind.u8 (wrapA IntKind.u8 (AV.int IntKind.i64 s1).intOf)).intOf.toNat, UInt8.ofNat (AV.int IntKind.u8 (wrapA IntKind.u8 (AV.int IntKind.i64 s2).intOf)).intOf.toNat, UInt8.ofNat (AV.int IntKind.u8 (wrapA IntKind.u8 (AV.int IntKind.i64 s3).intOf)).intOf.toNat, UInt8.ofNat ((AV.int IntKind.u32 (wrapA IntKind.u32 (AV.int IntKind.i64 s4).intOf)).intOf.toNat / 16777216), UInt8.ofNat ((AV.int IntKind.u32 (wrapA IntKind.u32 (AV.int IntKind.i64 s4).intOf)).intOf.toNat / 65536), UInt8.ofNat ((AV.int IntKind.u32 (wrapA IntKind.u32 (AV.int IntKind.i64 s4).intOf)).intOf.toNat / 256), UInt8.ofNat ((AV.int IntKind.u32 (wrapA IntKind.u32 (AV.int IntKind.i64 s4).intOf)).intOf.toNat / 1)])) 0 8) ++ [UInt8.ofNat ((AV.int IntKind.u32 (AV.int IntKind.u32 s6).intOf).intOf.toNat / 16777216), UInt8.ofNat ((AV.int IntKind.u32 (AV.int IntKind.u32 s6).intOf).intOf.toNat / 65536), UInt8.ofNat ((AV.int IntKind.u32 (AV.int IntKind.u32 s6).intOf).intOf.toNat / 256), UInt8.ofNat ((AV.int IntKind.u32 (AV.int IntKind.u32 s6).intOf).intOf.toNat / 1)]))) 0 12) ++ [UInt8.ofNat ((AV.int IntKind.u32 (AV.int IntKind.u32 s7).intOf).intOf.toNat / 16777216), UInt8.ofNat ((AV.int IntKind.u32 (AV.int IntKind.u32 s7).intOf).intOf.toNat / 65536), UInt8.ofNat ((AV.int IntKind.u32 (AV.int IntKind.u32 s7).intOf).intOf.toNat / 256), UInt8.ofNat ((AV.int IntKind.u32 (AV.int IntKind.u32 s7).intOf).intOf.toNat / 1)])) ++ [AV.int IntKind.u8 (wrapA IntKind.u8 (Int.ofNat ll))]) ++ livB (intsZ lv)))) 0 ((17 + ll) * 1)) ++ [UInt8.ofNat ((wrapA IntKind.u32 (AV.int IntKind.i64 s8).intOf).toNat / 16777216), UInt8.ofNat ((wrapA IntKind.u32 (AV.int IntKind.i64 s8).intOf).toNat / 65536), UInt8.ofNat ((wrapA IntKind.u32 (AV.int IntKind.i64 s8).intOf).toNat / 256), UInt8.ofNat ((wrapA IntKind.u32 (AV.int IntKind.i64 s8).intOf).toNat / 1)]))) 0 ((17 + ll + 4) * 1)) ++ [UInt8.ofNat ((AV.int IntKind.u32 s9).intOf.toNat / 16777216), UInt8.ofNat ((AV.int IntKind.u32 s9).intOf.toNat / 65536), UInt8.ofNat ((AV.int IntKind.u32 s9).intOf.toNat / 256), UInt8.ofNat ((AV.int IntKind.u32 s9).intOf.toNat / 1)]))) 0 ((17 + ll + 4 + 4) * 1)) ++ [UInt8.ofNat ((AV.int IntKind.u32 s10).intOf.toNat / 16777216), UInt8.ofNat ((AV.int IntKind.u32 s10).intOf.toNat / 65536), UInt8.ofNat ((AV.int IntKind.u32 s10).intOf.toNat / 256), UInt8.ofNat ((AV.int IntKind.u32 s10).intOf.toNat / 1)])))] :=
  call_runZ (q := (oc 46 (.y :: (oc 1 (.y :: (.y :: (oc 7 (.y :: (.y :: (.y :: (oc 1 (.y :: (.y :: (oc 7 (.y :: (.y :: (.y :: (oc 1 (.y :: (.y :: (oc 15 (.z :: (oc 8 (.y :: (oc 1 (.y :: (oc 1 (.y :: (oc 2 (.y :: (oc 1 (.y :: (oc 1 (.y :: (.y :: (.y :: (.y :: (.y :: (.y :: (.y :: (oc 1 (.y :: (.y :: (oc 1 (.y :: (oc 3 (.y :: (oc 1 (.y :: (oc 1 (.y :: (oc 9 (.y :: (.y :: (.y :: (.y :: (.y :: (.y :: (.y :: (.y :: (.y :: (.y :: (.y :: (.y :: (.y :: (.y :: (.y :: (.y :: (.y :: (.y :: (.y :: (.y :: (.y :: (.y :: (oc 4 (.y :: (.y :: (oc 5 (.y :: (oc 3 (.y :: (oc 6 (.y :: (oc 3 (.y :: (oc 3 (.y :: (.y :: [])))))))))))))))))))))))))))))))))))))))))))))))))))))))))))))))))))))))))))))))))))))))) (c := (Cnd.tst _ true :: Cnd.tst _ true :: Cnd.tst _ true :: Cnd.tst _ true :: Cnd.tst _ true :: Cnd.tst _ true :: Cnd.tst _ true :: Cnd.tst _ true :: Cnd.tst _ true :: Cnd.tst _ true :: Cnd.tst _ true :: Cnd.tst _ true :: Cnd.tst _ true :: Cnd.code (ZLT.lsumS (flOf tys) ((50, 2), rbL).snd).fst (ZLT.lsumS (flOf tys) ((50, 2), rbL).snd).fst :: Cnd.tst _ false :: Cnd.tst _ true :: Cnd.tst _ true :: Cnd.tst _ true :: Cnd.tst _ true :: Cnd.tst _ true :: Cnd.tst _ true :: Cnd.tst _ true :: Cnd.tst _ true :: Cnd.tst _ true :: Cnd.tst _ true :: Cnd.tst _ true :: Cnd.tst _ true :: Cnd.tst _ true :: Cnd.tst _ true :: Cnd.tst _ true :: Cnd.tst _ true :: Cnd.tst _ true :: Cnd.tst _ true :: Cnd.tst _ true :: Cnd.tst _ true :: Cnd.tst _ true :: Cnd.tst _ true :: Cnd.tst _ true :: Cnd.tst _ true :: Cnd.tst _ true :: Cnd.tst _ true :: Cnd.tst _ true :: Cnd.tst _ true :: Cnd.tst _ true :: Cnd.tst _ true :: Cnd.tst _ true :: Cnd.tst _ true :: Cnd.tst _ true :: Cnd.tst _ true :: Cnd.tst _ true :: Cnd.tst _ true :: Cnd.tst _ true :: Cnd.tst _ true :: Cnd.tst _ true :: Cnd.same (AV.slice (some (8, 0)) (17 + ll) none) (AV.slice (some (8, 0)) (17 + ll) none) :: Cnd.same (AV.int IntKind.i64 (AV.int IntKind.i64 s8).intOf) (AV.int IntKind.i64 (AV.int IntKind.i64 s8).intOf) :: Cnd.same (AV.int IntKind.u32 (wrapA IntKind.u32 (AV.int IntKind.i64 s8).intOf)) (AV.int IntKind.u32 (wrapA IntKind.u32 (AV.int IntKind.i64 s8).intOf)) :: Cnd.same (AV.int IntKind.u32 (AV.int IntKind.u32 s9).intOf) (AV.int IntKind.u32 (AV.int IntKind.u32 s9).intOf) :: Cnd.same (AV.int IntKind.u32 (AV.int IntKind.u32 s9).intOf) (AV.int IntKind.u32 (AV.int IntKind.u32 s9).intOf) :: Cnd.same (AV.int IntKind.u32 (AV.int IntKind.u32 s10).intOf) (AV.int IntKind.u32 (AV.int IntKind.u32 s10).intOf) :: Cnd.same (AV.int IntKind.u32 (AV.int IntKind.u32 s10).intOf) (AV.int IntKind.u32 (AV.int IntKind.u32 s10).intOf) :: Cnd.same (AV.int IntKind.u32 (AV.int IntKind.u32 s10).intOf) (AV.int IntKind.u32 (AV.int IntKind.u32 s10).intOf) :: Cnd.same (AV.slice (some (11, 0)) (17 + ll + 4 + 4 + 4) none) (AV.slice (some (11, 0)) (17 + ll + 4 + 4 + 4) none) :: [])) (by kernel_rfl) ⟨h0, h1, h2, h3, h4, h5, h6, h7, h8, h9, h10, h11, h12, rfl, h13, h14, h14, h15, h14, h14, h15, h16, h17, h17, h18, h19, h20, h21, h22, h14, h14, h14, h23, h24, h23, h25, h26, h27, h28, h29, h30, h31, h32, h33, h34, h35, h36, h37, h38, h39, h40, h41, h42, h43, rfl, rfl, rfl, rfl, rfl, rfl, rfl, rfl, rfl, trivial⟩
def statR : RSum := RSum.nb true fun us => match us with
  | [.agg [.int .i64 s0, .int .i64 s1, .int .i64 s2, .int .i64 s3, .int .i64 s4, .fsl la ll lv, .int .u32 s6, .int .u32 s7, .int .i64 s8, .int .u32 s9, .int .u32 s10]] =>
    some ([ileB (Int.ofNat 0) s6, iltB s6 (Int.ofNat 4294967296), ileB (Int.ofNat 0) s7, iltB s7 (Int.ofNat 4294967296), ileB (Int.ofNat 0) s9, iltB s9 (Int.ofNat 4294967296), ileB (Int.ofNat 0) s10, iltB s10 (Int.ofNat 4294967296), isZ lv, Nat.beq lv.length ll, Nat.ble ll 20],
      fun n => .slice (some (n, 0)) (17 + ll + 4 + 4 + 4) none, [.cells true 5 (17 + ll + 4 + 4 + 4) (kept (ofBytes (statB s0 s1 s2 s3 s4 (intsZ lv) s6 s7 s8 s9 s10)))])
  | _ => none
set_option maxHeartbeats 2000000 in
theorem statR_ok : RSum.Sound Try.prog tys 50 statR := by
  refine RSum.soundZ (cxZ cx_goes) all9c (RSum.nb_ok fun us q v bs hm hc => ?_)
  split at hm
  · rename_i s0 s1 s2 s3 s4 la ll lv s6 s7 s8 s9 s10
    injection hm with hm; injection hm with e1 hm; injection hm with e2 e3; rw [kept_eq] at e3; subst e1; subst e2; subst e3
    simp only [allTrue_cons] at hc
    obtain ⟨k6, l6, k7, l7, k9, l9, k10, l10, cz, cl, c20, _⟩ := hc
    obtain ⟨zs, rfl⟩ := isZ_iff.1 cz
    have cl := eq_of_beq' cl
    rw [encZ_length] at cl
    subst cl
    have c20 := Nat.le_of_ble_eq_true c20
    rw [intsZ_encZ]
    have k4 := (u32_wrap s4).1
    have l4 := (u32_wrap s4).2
    have k8 := (u32_wrap s8).1
    have l8 := (u32_wrap s8).2
    refine ⟨fun k hk => ?_, ?_⟩
    · have : k = .cells true 5 (17 + zs.length + 4 + 4 + 4) (ofBytes (statB s0 s1 s2 s3 s4 zs s6 s7 s8 s9 s10)) := by simpa using hk
      subst this
      simp only [Blk.plainOwn, ofBytes_plain, Bool.and_self]
    have fin : ∀ (h' : Heap) (j : Nat), aCall C9c 60 (Tgt.fn 50) [AV.agg [.int .i64 s0, .int .i64 s1, .int .i64 s2, .int .i64 s3, .int .i64 s4, .fsl la zs.length (encZ zs), .int .u32 s6, .int .u32 s7, .int .i64 s8, .int .u32 s9, .int .u32 s10]] H0 = some (AV.slice (some (j, 0)) (17 + zs.length + 4 + 4 + 4) none, h') → [j].map h'.get = [Blk.cells true 5 (17 + zs.length + 4 + 4 + 4) (ofBytes (statB s0 s1 s2 s3 s4 zs s6 s7 s8 s9 s10))] →
        ∃ (f : Nat) (h' : Heap) (sel : List Nat) (v0 : AV), aCall C9c f (.fn 50) [AV.agg [.int .i64 s0, .int .i64 s1, .int .i64 s2, .int .i64 s3, .int .i64 s4, .fsl la zs.length (encZ zs), .int .u32 s6, .int .u32 s7, .int .i64 s8, .int .u32 s9, .int .u32 s10]] H0 = some (v0, h') ∧ sel.map h'.get = [Blk.cells true 5 (17 + zs.length + 4 + 4 + 4) (ofBytes (statB s0 s1 s2 s3 s4 zs s6 s7 s8 s9 s10))] ∧
          (∀ (l l' j : Nat), sel[l]? = some j → sel[l']? = some j → l = l') ∧ v0.ok true (fun b => sel.contains b) = true ∧ ∀ (n : Nat) (ρ : Nat → Nat), (∀ (l j : Nat), sel[l]? = some j → ρ j = n + l) → AV.Le (v0.ren ρ) (.slice (some (n, 0)) (17 + zs.length + 4 + 4 + 4) none) := by
      intro h' j h hb
      refine ⟨60, h', [j], _, h, hb, sel_one j, by simp [AV.ok], fun n ρ hρ => ?_⟩
      have := hρ 0 j rfl
      simp only [AV.ren, Option.map_some, this, Nat.add_zero]
      exact AV.Le.refl _
    by_cases h0 : zs.length = 0
    · have : zs = [] := List.eq_nil_of_length_eq_zero h0
      subst this
      have lv0 : livB [] = [] := rfl
      have key := st_e s0 s1 s2 s3 s4 la 0 (encZ []) s6 s7 s8 s9 s10
      iterate 31
        replace key := key (by
          (try simp only [kept_eq, AV.intOf, bytesL_ofBytes, rowCut_len, List.length_append, List.length_cons, List.length_nil, livB_len, Nat.reduceAdd, Nat.zero_add, Nat.mul_one, intsZ_encZ, app_u8, k4, l4, k6, l6, k7, l7, k8, l8, k9, l9, k10, l10, lv0])
          first
            | done
            | with_reducible rfl
            | with_reducible exact ofBytes_plainL _
            | with_reducible exact u8L_ofBytes _
            | with_reducible exact encZ_plainL _
            | (simp only [one_u8, u8L_one]; done)
            | (simp only [one_u8, u8L_one]; rfl)
            | (simp [nbeq, nble, ofBytes_length, livB_len, encZ_length, u8L_ofBytes, ofBytes_plainL]; done)
            | (simp [nbeq, nble, ofBytes_length, livB_len, encZ_length]; omega))
      obtain ⟨h', h, hb⟩ := key
      simp only [kept_eq, AV.intOf, bytesL_ofBytes, rowCut_len, List.length_append, List.length_cons, List.length_nil, livB_len, Nat.reduceAdd, Nat.zero_add, Nat.mul_one, intsZ_encZ, app_u8, k4, l4, k6, l6, k7, l7, k8, l8, k9, l9, k10, l10, lv0] at h hb
      refine fin h' 10 h (hb.trans ?_)
      unfold statB
      simp only [lv0, List.append_nil, List.length_nil]
    · have kz : Nat.beq zs.length 0 = false := by rw [nbeq]; exact decide_eq_false h0
      have pz := encZ_plainL zs
      have iz := isZ_iff.2 ⟨zs, rfl⟩
      have key := st_n s0 s1 s2 s3 s4 la zs.length (encZ zs) s6 s7 s8 s9 s10
      iterate 44
        replace key := key (by
          (try simp only [kept_eq, AV.intOf, bytesL_ofBytes, rowCut_len, List.length_append, List.length_cons, List.length_nil, livB_len, Nat.reduceAdd, Nat.zero_add, Nat.mul_one, intsZ_encZ, app_u8, k4, l4, k6, l6, k7, l7, k8, l8, k9, l9, k10, l10, kz, pz, iz])
          first
            | done
            | with_reducible rfl
            | with_reducible exact ofBytes_plainL _
            | with_reducible exact u8L_ofBytes _
            | with_reducible exact encZ_plainL _
            | (simp only [one_u8, u8L_one]; done)
            | (simp only [one_u8, u8L_one]; rfl)
            | (simp [nbeq, nble, ofBytes_length, livB_len, encZ_length, u8L_ofBytes, ofBytes_plainL, iz]; done)
            | (simp [nbeq, nble, ofBytes_length, livB_len, encZ_length]; omega))
      obtain ⟨h', h, hb⟩ := key
      simp only [kept_eq, AV.intOf, bytesL_ofBytes, rowCut_len, List.length_append, List.length_cons, List.length_nil, livB_len, Nat.reduceAdd, Nat.zero_add, Nat.mul_one, intsZ_encZ, app_u8, k4, l4, k6, l6, k7, l7, k8, l8, k9, l9, k10, l10, kz, pz, iz] at h hb
      exact fin h' 11 h hb
  · cases hm
abbrev T9e : TTab := [(50, statR.rt), (49, rputR.rt), (67, cloneR.rt), (46, (RSum.const (.bool true)).rt)]
theorem T9e_ok : TOK Try.prog tys T9e := ⟨RSum.rt_sound statR_ok, RSum.rt_sound rputR_ok, RSum.rt_sound cloneR_ok, RSum.rt_sound lives24_ok, trivial⟩
def K9e : Known := { t := T9e, l := [((11, 2), raL)] }
theorem K9e_ok : KOK Try.prog tys K9e := ⟨T9e_ok, trivial, trivial, trivial, ⟨raL_ok, trivial⟩⟩
abbrev C9e := mkCxZ tys fns K9e
theorem all9e : SumAll Try.prog C9e := sums_allZ K9e_ok
end Go.Proofs.Ytecncappdnhbaaa
end
end

/- RequestReplies: the loops over three numbers. -/
section
set_option autoImplicit false
set_option linter.unusedVariables false
set_option linter.unusedSimpArgs false
set_option maxRecDepth 100000
noncomputable section
namespace Go.Ab
open M
theorem u64_of (x : Int) (h0 : 0 ≤ x) (h1 : x < 4294967296) : wrapA .u64 x = x ∧ ileB (Int.ofNat 0) x = true ∧ iltB x (Int.ofNat 18446744073709551616) = true := by
  obtain ⟨n, rfl⟩ : ∃ n : Nat, x = (n : Int) := ⟨x.toNat, by omega⟩
  refine ⟨wrapA_nat .u64 n (by show n < 18446744073709551616; omega), ?_, ?_⟩
  · rw [ileB_eq]; exact decide_eq_true h0
  · rw [iltB_eq]; exact decide_eq_true (by show (n : Int) < 18446744073709551616; omega)
end Go.Ab
namespace Go.Proofs.Ytecncappdnhbaaa
open Go.Ab.M Go.Ab Go
theorem rc_0 (s0 : Int) (s1 : Int) (s2 : Int) (s3 : Int) (s4 : Int) (la2 : Bool) (ll2 : Nat) (lv2 : List AV) (s6 : Int) (s7 : Int) (s8 : Int) (s9 : Int) (s10 : Int) (x0 : Int) (x1 : Int) (x2 : Int) (cs : List AV) (h0 : (ileB (Int.ofNat 0) (wrapA IntKind.u64 (AV.int IntKind.u32 x0).intOf)) = true) (h1 : (iltB (wrapA IntKind.u64 (AV.int IntKind.u32 x0).intOf) (Int.ofNat 18446744073709551616)) = true) (h2 : (ileB (Int.ofNat 0) (wrapA IntKind.u64 (AV.int IntKind.u32 x1).intOf)) = true) (h3 : (iltB (wrapA IntKind.u64 (AV.int IntKind.u32 x1).intOf) (Int.ofNat 18446744073709551616)) = true) (h4 : ((rowCut cs 0 4 ++ rowCut (kept (ofBytes (putB 4 (wrapA IntKind.u64 (AV.int IntKind.u32 x0).intOf).toNat))) 0 4).length.beq 8) = true) (h5 : ((rowCut (kept (ofBytes (putB 4 (wrapA IntKind.u64 (AV.int IntKind.u32 x1).intOf).toNat))) 0 4).all AV.isCell) = true) (h6 : (ileB (Int.ofNat 0) (wrapA IntKind.u64 (AV.int IntKind.u32 x2).intOf)) = true) (h7 : (iltB (wrapA IntKind.u64 (AV.int IntKind.u32 x2).intOf) (Int.ofNat 18446744073709551616)) = true) (h8 : ((rowCut cs 0 4 ++ rowCut (kept (ofBytes (putB 4 (wrapA IntKind.u64 (AV.int IntKind.u32 x0).intOf).toNat))) 0 4 ++ rowCut (kept (ofBytes (putB 4 (wrapA IntKind.u64 (AV.int IntKind.u32 x1).intOf).toNat))) 0 4).length.beq 12) = true) (h9 : ((rowCut (kept (ofBytes (putB 4 (wrapA IntKind.u64 (AV.int IntKind.u32 x2).intOf).toNat))) 0 4).all AV.isCell) = true) (h10 : (AV.plainL lv2) = true) (h11 : (AV.plainL cs) = true) (h12 : (AV.plainL (rowCut cs 0 4 ++ rowCut (kept (ofBytes (putB 4 (wrapA IntKind.u64 (AV.int IntKind.u32 x0).intOf).toNat))) 0 4 ++ rowCut (kept (ofBytes (putB 4 (wrapA IntKind.u64 (AV.int IntKind.u32 x1).intOf).toNat))) 0 4 ++ rowCut (kept (ofBytes (putB 4 (wrapA IntKind.u64 (AV.int IntKind.u32 x2).intOf).toNat))) 0 4)) = true) :
    CodeOK Try.prog (tyCx tys) 162 3 (blockOf Try.f11 0) { fr := frameOf 162 ([5, 13, 105, 106, 107].zip [AV.ptr (some (0, 0)), AV.slice (some (1, 0)) 4 (some 4), AV.slice (some (2, 0)) 3 (some 3), AV.int IntKind.i64 (Int.ofNat 3), AV.int IntKind.i64 (Int.ofNat 0)]), ds := upTo 0, H := mkL [Blk.cells true 80 11 [AV.int IntKind.i64 s0, AV.int IntKind.i64 s1, AV.int IntKind.i64 s2, AV.int IntKind.i64 s3, AV.int IntKind.i64 s4, AV.fsl la2 ll2 lv2, AV.int IntKind.u32 s6, AV.int IntKind.u32 s7, AV.int IntKind.i64 s8, AV.int IntKind.u32 s9, AV.int IntKind.u32 s10], Blk.cells true 5 4 cs, Blk.cells true 27 3 [AV.int IntKind.u32 x0, AV.int IntKind.u32 x1, AV.int IntKind.u32 x2]] } (AX.exit 0) ⟨frameOf 162 ([5, 13, 105, 106, 107].zip [AV.ptr (some (0, 0)), AV.slice (some (3, 0)) 16 none, AV.slice (some (2, 0)) 3 (some 3), AV.int IntKind.i64 (Int.ofNat 3), AV.int IntKind.i64 (Int.ofNat 3)]), upTo 0, mkL [Blk.cells true 80 11 [AV.int IntKind.i64 s0, AV.int IntKind.i64 s1, AV.int IntKind.i64 s2, AV.int IntKind.i64 s3, AV.int IntKind.i64 s4, AV.fsl la2 ll2 lv2, AV.int IntKind.u32 s6, AV.int IntKind.u32 s7, AV.int IntKind.i64 s8, AV.int IntKind.u32 s9, AV.int IntKind.u32 s10], Blk.cells true 5 4 cs, Blk.cells true 27 3 [AV.int IntKind.u32 x0, AV.int IntKind.u32 x1, AV.int IntKind.u32 x2], Blk.cells true 5 (rowCut cs 0 4 ++ rowCut (kept (ofBytes (putB 4 (wrapA IntKind.u64 (AV.int IntKind.u32 x0).intOf).toNat))) 0 4 ++ rowCut (kept (ofBytes (putB 4 (wrapA IntKind.u64 (AV.int IntKind.u32 x1).intOf).toNat))) 0 4 ++ rowCut (kept (ofBytes (putB 4 (wrapA IntKind.u64 (AV.int IntKind.u32 x2).intOf).toNat))) 0 4).length (rowCut cs 0 4 ++ rowCut (kept (ofBytes (putB 4 (wrapA IntKind.u64 (AV.int IntKind.u32 x0).intOf).toNat))) 0 4 ++ rowCut (kept (ofBytes (putB 4 (wrapA IntKind.u64 (AV.int IntKind.u32 x1).intOf).toNat))) 0 4 ++ rowCut (kept (ofBytes (putB 4 (wrapA IntKind.u64 (AV.int IntKind.u32 x2).intOf).toNat))) 0 4)]⟩ :=
  zrows_run (g := 30) (k := 11) (f := 40) (sl := [5, 13, 105, 106, 107]) (ks := [0, 1, 2, 8]) (rs := []) (ds := []) (cxZ cx_goes) all9e (q := (oc 7 (.y :: (.y :: (oc 12 (.y :: (.y :: (oc 3 (.y :: (.y :: (oc 7 (.y :: (.y :: (oc 3 (.y :: (.y :: (oc 1 []))))))))))))))))) (c := (Cnd.tst _ true :: Cnd.tst _ true :: Cnd.tst _ true :: Cnd.tst _ true :: Cnd.tst _ true :: Cnd.tst _ true :: Cnd.tst _ true :: Cnd.tst _ true :: Cnd.tst _ true :: Cnd.tst _ true :: [])) (cq := [true, true, true, true, AV.plainL lv2, true, AV.plainL cs, true, true, true, AV.plainL (rowCut cs 0 4 ++ rowCut (kept (ofBytes (putB 4 (wrapA IntKind.u64 (AV.int IntKind.u32 x0).intOf).toNat))) 0 4 ++ rowCut (kept (ofBytes (putB 4 (wrapA IntKind.u64 (AV.int IntKind.u32 x1).intOf).toNat))) 0 4 ++ rowCut (kept (ofBytes (putB 4 (wrapA IntKind.u64 (AV.int IntKind.u32 x2).intOf).toNat))) 0 4)]) (by kernel_rfl) ⟨h0, h1, h2, h3, h4, h5, h6, h7, h8, h9, trivial⟩ (holdsB ⟨rfl, rfl, rfl, rfl, h10, rfl, h11, rfl, rfl, rfl, h12, trivial⟩) (by kernel_rfl) (by kernel_rfl) (by kernel_rfl) (by kernel_rfl) (by kernel_rfl)
theorem rc_4 (s0 : Int) (s1 : Int) (s2 : Int) (s3 : Int) (s4 : Int) (la2 : Bool) (ll2 : Nat) (lv2 : List AV) (s6 : Int) (s7 : Int) (s8 : Int) (s9 : Int) (s10 : Int) (x0 : Int) (x1 : Int) (x2 : Int) (n : Nat) (cs : List AV) (h0 : (ileB (Int.ofNat 0) (wrapA IntKind.u64 (AV.int IntKind.u32 x0).intOf)) = true) (h1 : (iltB (wrapA IntKind.u64 (AV.int IntKind.u32 x0).intOf) (Int.ofNat 18446744073709551616)) = true) (h2 : (appRoom 1 n 4) = true) (h3 : (n.beq (n * 1)) = true) (h4 : ((rowCut (kept (ofBytes (putB 4 (wrapA IntKind.u64 (AV.int IntKind.u32 x0).intOf).toNat))) 0 4).all AV.isCell) = true) (h5 : (ileB (Int.ofNat 0) (wrapA IntKind.u64 (AV.int IntKind.u32 x1).intOf)) = true) (h6 : (iltB (wrapA IntKind.u64 (AV.int IntKind.u32 x1).intOf) (Int.ofNat 18446744073709551616)) = true) (h7 : (appRoom 1 (n + 4) 4) = true) (h8 : ((cs ++ rowCut (kept (ofBytes (putB 4 (wrapA IntKind.u64 (AV.int IntKind.u32 x0).intOf).toNat))) 0 4).length.beq ((n + 4) * 1)) = true) (h9 : ((rowCut (kept (ofBytes (putB 4 (wrapA IntKind.u64 (AV.int IntKind.u32 x1).intOf).toNat))) 0 4).all AV.isCell) = true) (h10 : (ileB (Int.ofNat 0) (wrapA IntKind.u64 (AV.int IntKind.u32 x2).intOf)) = true) (h11 : (iltB (wrapA IntKind.u64 (AV.int IntKind.u32 x2).intOf) (Int.ofNat 18446744073709551616)) = true) (h12 : (appRoom 1 (n + 4 + 4) 4) = true) (h13 : ((cs ++ rowCut (kept (ofBytes (putB 4 (wrapA IntKind.u64 (AV.int IntKind.u32 x0).intOf).toNat))) 0 4 ++ rowCut (kept (ofBytes (putB 4 (wrapA IntKind.u64 (AV.int IntKind.u32 x1).intOf).toNat))) 0 4).length.beq ((n + 4 + 4) * 1)) = true) (h14 : ((rowCut (kept (ofBytes (putB 4 (wrapA IntKind.u64 (AV.int IntKind.u32 x2).intOf).toNat))) 0 4).all AV.isCell) = true) (h15 : (AV.plainL lv2) = true) (h16 : (AV.plainL (cs ++ rowCut (kept (ofBytes (putB 4 (wrapA IntKind.u64 (AV.int IntKind.u32 x0).intOf).toNat))) 0 4 ++ rowCut (kept (ofBytes (putB 4 (wrapA IntKind.u64 (AV.int IntKind.u32 x1).intOf).toNat))) 0 4 ++ rowCut (kept (ofBytes (putB 4 (wrapA IntKind.u64 (AV.int IntKind.u32 x2).intOf).toNat))) 0 4)) = true) :
    CodeOK Try.prog (tyCx tys) 162 3 (blockOf Try.f11 4) { fr := frameOf 162 ([5, 13, 144, 145, 146].zip [AV.ptr (some (0, 0)), AV.slice (some (1, 0)) n none, AV.slice (some (2, 0)) 3 (some 3), AV.int IntKind.i64 (Int.ofNat 3), AV.int IntKind.i64 (Int.ofNat 0)]), ds := upTo 0, H := mkL [Blk.cells true 80 11 [AV.int IntKind.i64 s0, AV.int IntKind.i64 s1, AV.int IntKind.i64 s2, AV.int IntKind.i64 s3, AV.int IntKind.i64 s4, AV.fsl la2 ll2 lv2, AV.int IntKind.u32 s6, AV.int IntKind.u32 s7, AV.int IntKind.i64 s8, AV.int IntKind.u32 s9, AV.int IntKind.u32 s10], Blk.cells true 5 n cs, Blk.cells true 27 3 [AV.int IntKind.u32 x0, AV.int IntKind.u32 x1, AV.int IntKind.u32 x2]] } (AX.exit 4) ⟨frameOf 162 ([5, 13, 144, 145, 146].zip [AV.ptr (some (0, 0)), AV.slice (some (3, 0)) (n + 4 + 4 + 4) none, AV.slice (some (2, 0)) 3 (some 3), AV.int IntKind.i64 (Int.ofNat 3), AV.int IntKind.i64 (Int.ofNat 3)]), upTo 0, mkL [Blk.cells true 80 11 [AV.int IntKind.i64 s0, AV.int IntKind.i64 s1, AV.int IntKind.i64 s2, AV.int IntKind.i64 s3, AV.int IntKind.i64 s4, AV.fsl la2 ll2 lv2, AV.int IntKind.u32 s6, AV.int IntKind.u32 s7, AV.int IntKind.i64 s8, AV.int IntKind.u32 s9, AV.int IntKind.u32 s10], Blk.dead, Blk.cells true 27 3 [AV.int IntKind.u32 x0, AV.int IntKind.u32 x1, AV.int IntKind.u32 x2], Blk.cells true 5 (cs ++ rowCut (kept (ofBytes (putB 4 (wrapA IntKind.u64 (AV.int IntKind.u32 x0).intOf).toNat))) 0 4 ++ rowCut (kept (ofBytes (putB 4 (wrapA IntKind.u64 (AV.int IntKind.u32 x1).intOf).toNat))) 0 4 ++ rowCut (kept (ofBytes (putB 4 (wrapA IntKind.u64 (AV.int IntKind.u32 x2).intOf).toNat))) 0 4).length (cs ++ rowCut (kept (ofBytes (putB 4 (wrapA IntKind.u64 (AV.int IntKind.u32 x0).intOf).toNat))) 0 4 ++ rowCut (kept (ofBytes (putB 4 (wrapA IntKind.u64 (AV.int IntKind.u32 x1).intOf).toNat))) 0 4 ++ rowCut (kept (ofBytes (putB 4 (wrapA IntKind.u64 (AV.int IntKind.u32 x2).intOf).toNat))) 0 4)]⟩ :=
  zrows_run (g := 30) (k := 11) (f := 40) (sl := [5, 13, 144, 145, 146]) (ks := [0, 1, 2, 8]) (rs := []) (ds := []) (cxZ cx_goes) all9e (q := (oc 7 (.y :: (.y :: (oc 2 (.y :: (.y :: (.y :: (oc 7 (.y :: (.y :: (oc 2 (.y :: (.y :: (.y :: (oc 7 (.y :: (.y :: (oc 2 (.y :: (.y :: (.y :: (oc 1 []))))))))))))))))))))))) (c := (Cnd.tst _ true :: Cnd.tst _ true :: Cnd.tst _ true :: Cnd.tst _ true :: Cnd.tst _ true :: Cnd.tst _ true :: Cnd.tst _ true :: Cnd.tst _ true :: Cnd.tst _ true :: Cnd.tst _ true :: Cnd.tst _ true :: Cnd.tst _ true :: Cnd.tst _ true :: Cnd.tst _ true :: Cnd.tst _ true :: [])) (cq := [true, true, true, true, AV.plainL lv2, true, true, true, AV.plainL (cs ++ rowCut (kept (ofBytes (putB 4 (wrapA IntKind.u64 (AV.int IntKind.u32 x0).intOf).toNat))) 0 4 ++ rowCut (kept (ofBytes (putB 4 (wrapA IntKind.u64 (AV.int IntKind.u32 x1).intOf).toNat))) 0 4 ++ rowCut (kept (ofBytes (putB 4 (wrapA IntKind.u64 (AV.int IntKind.u32 x2).intOf).toNat))) 0 4)]) (by kernel_rfl) ⟨h0, h1, h2, h3, h4, h5, h6, h7, h8, h9, h10, h11, h12, h13, h14, trivial⟩ (holdsB ⟨rfl, rfl, rfl, rfl, h15, rfl, rfl, rfl, h16, trivial⟩) (by kernel_rfl) (by kernel_rfl) (by kernel_rfl) (by kernel_rfl) (by kernel_rfl)
def rc0L : ZLoop := ⟨162, blockOf Try.f11 0, [5, 13, 105, 106, 107], 0, [], fun vs bs => match vs, bs with
  | [.ptr (some (0, 0)), .slice (some (1, 0)) 4 (some 4), .slice (some (2, 0)) 3 (some 3), .int .i64 (.ofNat m), .int .i64 (.ofNat i)], [.cells true 80 11 [.int .i64 s0, .int .i64 s1, .int .i64 s2, .int .i64 s3, .int .i64 s4, .fsl la2 ll2 lv2, .int .u32 s6, .int .u32 s7, .int .i64 s8, .int .u32 s9, .int .u32 s10], .cells true 5 n' cs, .cells true 27 3 [.int .u32 x0, .int .u32 x1, .int .u32 x2]] =>
    some ([Nat.beq m 3, Nat.beq i 0, u8L cs, Nat.beq cs.length 4, Nat.beq n' 4, Nat.ble 4 1000, ileB (Int.ofNat 0) x0, iltB x0 (Int.ofNat 4294967296), ileB (Int.ofNat 0) x1, iltB x1 (Int.ofNat 4294967296), ileB (Int.ofNat 0) x2, iltB x2 (Int.ofNat 4294967296), AV.plainL lv2], .normal, [.ptr (some (0, 0)), .slice (some (3, 0)) (16) none, .slice (some (2, 0)) 3 (some 3), .int .i64 (Int.ofNat 3), .int .i64 (Int.ofNat 3)],
      [.cells true 80 11 [.int .i64 s0, .int .i64 s1, .int .i64 s2, .int .i64 s3, .int .i64 s4, .fsl la2 ll2 lv2, .int .u32 s6, .int .u32 s7, .int .i64 s8, .int .u32 s9, .int .u32 s10], .cells true 5 n' cs, .cells true 27 3 [.int .u32 x0, .int .u32 x1, .int .u32 x2], .cells true 5 (16) (kept (ofBytes (bytesL cs ++ putB 4 x0.toNat ++ putB 4 x1.toNat ++ putB 4 x2.toNat)))])
  | _, _ => none⟩
theorem rc0L_ok : rc0L.OK Try.prog (tyCx tys) (flOf tys) 0 := by
  intro vs bs conds X vs' bs' h hc hin
  simp only [rc0L] at h
  split at h
  · rename_i m i s0 s1 s2 s3 s4 la2 ll2 lv2 s6 s7 s8 s9 s10 n' cs x0 x1 x2
    injection h with h; injection h with e1 h; injection h with e2 h; injection h with e3 e4
    subst e1; subst e2; subst e3; subst e4
    simp only [allTrue_cons, ileB_eq, iltB_eq, decide_eq_true_eq] at hc
    obtain ⟨c1, c2, c3, c4, c5, c6, q0, l0, q1, l1, q2, l2, p2, _⟩ := hc
    have c1 := eq_of_beq' c1
    have c2 := eq_of_beq' c2
    have c4 := eq_of_beq' c4
    have c5 := eq_of_beq' c5
    have c6 := Nat.le_of_ble_eq_true c6
    obtain ⟨w, rfl⟩ := u8L_iff.1 c3
    rw [ofBytes_length] at c4
    subst c1; subst c2; subst c5
    rw [kept_eq, bytesL_ofBytes]
    obtain ⟨u0, g0, h0⟩ := u64_of x0 q0 l0
    obtain ⟨u1, g1, h1⟩ := u64_of x1 q1 l1
    obtain ⟨u2, g2, h2⟩ := u64_of x2 q2 l2
    have t0 : ∀ x, (putB 4 x).length = 4 := fun x => putB_length 4 x
    have r0 : ∀ x, rowCut (ofBytes (putB 4 x)) 0 4 = ofBytes (putB 4 x) := fun x => rowCut_len _ 4 (putB_length 4 x)
    have rw4 : w.length = 4 → rowCut (ofBytes w) 0 4 = ofBytes w := fun h => rowCut_len w 4 h
    have ap : ∀ k, k ≤ 2000 → appRoom 1 k 4 = true := fun k hk => room_of (by omega) (by omega)
    have key := rc_0 s0 s1 s2 s3 s4 la2 ll2 lv2 s6 s7 s8 s9 s10 x0 x1 x2 (ofBytes w)
    iterate 13
      replace key := key (by
        (try simp only [kept_eq, AV.intOf, u0, u1, u2, g0, g1, g2, h0, h1, h2, r0, c4, rw4, ← ofBytes_append, ofBytes_length, List.length_append, t0, Nat.reduceAdd, p2])
        first
          | done
          | with_reducible rfl
          | with_reducible exact ofBytes_plainL _
          | with_reducible exact ofBytes_cells _
          | exact ap _ (by omega)
          | (simp [nbeq, nble]; done)
          | (simp [nbeq, nble]; omega))
    simp only [kept_eq, AV.intOf, u0, u1, u2, r0, c4, rw4, ← ofBytes_append, ofBytes_length, List.length_append, t0, Nat.reduceAdd] at key
    exact CodeOK.block 0 key
  · cases h
def rc4L : ZLoop := ⟨162, blockOf Try.f11 4, [5, 13, 144, 145, 146], 0, [], fun vs bs => match vs, bs with
  | [.ptr (some (0, 0)), .slice (some (1, 0)) n none, .slice (some (2, 0)) 3 (some 3), .int .i64 (.ofNat m), .int .i64 (.ofNat i)], [.cells true 80 11 [.int .i64 s0, .int .i64 s1, .int .i64 s2, .int .i64 s3, .int .i64 s4, .fsl la2 ll2 lv2, .int .u32 s6, .int .u32 s7, .int .i64 s8, .int .u32 s9, .int .u32 s10], .cells true 5 n' cs, .cells true 27 3 [.int .u32 x0, .int .u32 x1, .int .u32 x2]] =>
    some ([Nat.beq m 3, Nat.beq i 0, u8L cs, Nat.beq cs.length n, Nat.beq n' n, Nat.ble n 1000, ileB (Int.ofNat 0) x0, iltB x0 (Int.ofNat 4294967296), ileB (Int.ofNat 0) x1, iltB x1 (Int.ofNat 4294967296), ileB (Int.ofNat 0) x2, iltB x2 (Int.ofNat 4294967296), AV.plainL lv2], .normal, [.ptr (some (0, 0)), .slice (some (3, 0)) (n + 4 + 4 + 4) none, .slice (some (2, 0)) 3 (some 3), .int .i64 (Int.ofNat 3), .int .i64 (Int.ofNat 3)],
      [.cells true 80 11 [.int .i64 s0, .int .i64 s1, .int .i64 s2, .int .i64 s3, .int .i64 s4, .fsl la2 ll2 lv2, .int .u32 s6, .int .u32 s7, .int .i64 s8, .int .u32 s9, .int .u32 s10], .dead, .cells true 27 3 [.int .u32 x0, .int .u32 x1, .int .u32 x2], .cells true 5 (n + 4 + 4 + 4) (kept (ofBytes (bytesL cs ++ putB 4 x0.toNat ++ putB 4 x1.toNat ++ putB 4 x2.toNat)))])
  | _, _ => none⟩
theorem rc4L_ok : rc4L.OK Try.prog (tyCx tys) (flOf tys) 4 := by
  intro vs bs conds X vs' bs' h hc hin
  simp only [rc4L] at h
  split at h
  · rename_i n m i s0 s1 s2 s3 s4 la2 ll2 lv2 s6 s7 s8 s9 s10 n' cs x0 x1 x2
    injection h with h; injection h with e1 h; injection h with e2 h; injection h with e3 e4
    subst e1; subst e2; subst e3; subst e4
    simp only [allTrue_cons, ileB_eq, iltB_eq, decide_eq_true_eq] at hc
    obtain ⟨c1, c2, c3, c4, c5, c6, q0, l0, q1, l1, q2, l2, p2, _⟩ := hc
    have c1 := eq_of_beq' c1
    have c2 := eq_of_beq' c2
    have c4 := eq_of_beq' c4
    have c5 := eq_of_beq' c5
    have c6 := Nat.le_of_ble_eq_true c6
    obtain ⟨w, rfl⟩ := u8L_iff.1 c3
    rw [ofBytes_length] at c4
    subst c1; subst c2; subst c5
    rw [kept_eq, bytesL_ofBytes]
    obtain ⟨u0, g0, h0⟩ := u64_of x0 q0 l0
    obtain ⟨u1, g1, h1⟩ := u64_of x1 q1 l1
    obtain ⟨u2, g2, h2⟩ := u64_of x2 q2 l2
    have t0 : ∀ x, (putB 4 x).length = 4 := fun x => putB_length 4 x
    have r0 : ∀ x, rowCut (ofBytes (putB 4 x)) 0 4 = ofBytes (putB 4 x) := fun x => rowCut_len _ 4 (putB_length 4 x)
    have rw4 : w.length = 4 → rowCut (ofBytes w) 0 4 = ofBytes w := fun h => rowCut_len w 4 h
    have ap : ∀ k, k ≤ 2000 → appRoom 1 k 4 = true := fun k hk => room_of (by omega) (by omega)
    have key := rc_4 s0 s1 s2 s3 s4 la2 ll2 lv2 s6 s7 s8 s9 s10 x0 x1 x2 n' (ofBytes w)
    iterate 17
      replace key := key (by
        (try simp only [kept_eq, AV.intOf, u0, u1, u2, g0, g1, g2, h0, h1, h2, r0, c4, rw4, ← ofBytes_append, ofBytes_length, List.length_append, t0, Nat.reduceAdd, p2])
        first
          | done
          | with_reducible rfl
          | with_reducible exact ofBytes_plainL _
          | with_reducible exact ofBytes_cells _
          | exact ap _ (by omega)
          | (simp [nbeq, nble]; done)
          | (simp [nbeq, nble]; omega))
    simp only [kept_eq, AV.intOf, u0, u1, u2, r0, c4, rw4, ← ofBytes_append, ofBytes_length, List.length_append, t0, Nat.reduceAdd] at key
    exact CodeOK.block 4 key
  · cases h
def K9f : Known := { t := T9e, l := [((11, 2), raL), ((11, 0), rc0L.lt), ((11, 4), rc4L.lt)] }
theorem K9f_ok : KOK Try.prog tys K9f := ⟨T9e_ok, trivial, trivial, trivial, ⟨raL_ok, ZLoop.lt_ok rc0L_ok, ZLoop.lt_ok rc4L_ok, trivial⟩⟩
abbrev C9f := mkCxZ tys fns K9f
theorem all9f : SumAll Try.prog C9f := sums_allZ K9f_ok
end Go.Proofs.Ytecncappdnhbaaa
end
end
