/- Texts of the abstract machine and of the laws, merged. -/
import Derived.Test.YtecncappdnhbaaaGT
import Derived.Test.YtecncappdnhbaaaG3
/- The seat's machine, with what is known. -/
section
set_option autoImplicit false
set_option linter.unusedVariables false
set_option maxRecDepth 100000
noncomputable section
namespace Go.Proofs.Ytecncappdnhbaaa
open Go.Ab
abbrev tys := T.get none atys
abbrev fns := T.get none afns
/-- nothing is known. -/
abbrev C0 := mkCx tys fns [] []
theorem all0 : SumAll Try.prog C0 := sums_all (fun _ h => by cases h) (fun _ h => by cases h)
end Go.Proofs.Ytecncappdnhbaaa
end
end

/- Words that are turned: plain laws. -/
section
section
set_option autoImplicit false
set_option linter.unusedVariables false
set_option linter.unusedSimpArgs false
namespace Go.Ab




end Go.Ab
end
end

/- Bits of words: plain laws. -/
section
section
set_option autoImplicit false
set_option linter.unusedVariables false
set_option linter.unusedSimpArgs false
namespace Go.Ab



/-! ### Words as natural numbers -/
theorem wrapA_nat (k : IntKind) (m : Nat) (h : m < topK k) : wrapA k (m : Int) = m := by rw [wrapA_eq]; exact wrap_small k m h
theorem xorN_nat (k : IntKind) (x y : Nat) (hx : x < topK k) (hy : y < topK k) : xorN k (x : Int) (y : Int) = ((x ^^^ y : Nat) : Int) := by
  have h := iXor_eq k (x : Int) (y : Int)
  unfold iXor at h
  injection h with _ h
  rw [h, BitVec.toNat_xor, ofInt_small k x hx, ofInt_small k y hy]
  obtain ⟨j, hj, _⟩ := topK_pow k
  refine wrap_small k _ ?_
  rw [hj] at hx hy ⊢
  exact Nat.xor_lt_two_pow hx hy
theorem i64_add (a b : Nat) (h : a + b < 9223372036854775808) : wrapA .i64 (Int.add (a : Int) (b : Int)) = ((a + b : Nat) : Int) := by
  have : Int.add (a : Int) (b : Int) = ((a + b : Nat) : Int) := by show (a : Int) + b = _; omega
  rw [this]; exact wrapA_nat .i64 _ h
theorem i64_sub (a b : Nat) (h : b ≤ a) (h2 : a < 9223372036854775808) : wrapA .i64 (Int.sub (a : Int) (b : Int)) = ((a - b : Nat) : Int) := by
  have : Int.sub (a : Int) (b : Int) = ((a - b : Nat) : Int) := by show (a : Int) - b = _; omega
  rw [this]; exact wrapA_nat .i64 _ (by show _ < 9223372036854775808; omega)
end Go.Ab
end
end

/- The bits of words: what the functions that count them do. -/
section
set_option autoImplicit false
set_option linter.unusedVariables false
set_option linter.unusedSimpArgs false
set_option maxRecDepth 100000
noncomputable section
namespace Go.Proofs.Ytecncappdnhbaaa
open Go Go.Ab
end Go.Proofs.Ytecncappdnhbaaa
namespace Go.Ab.M
end Go.Ab.M
namespace Go.Proofs.Ytecncappdnhbaaa
open Go.Ab.M Go.Ab Go
end Go.Proofs.Ytecncappdnhbaaa
end
end

/- Words: rows of the functions that count, turn, tell a bit. -/
section
set_option autoImplicit false
set_option linter.unusedVariables false
set_option linter.unusedSimpArgs false
set_option maxRecDepth 100000
noncomputable section
namespace Go.Ab.M
end Go.Ab.M
namespace Go.Proofs.Ytecncappdnhbaaa
open Go.Ab.M Go.Ab Go
end Go.Proofs.Ytecncappdnhbaaa
end
end

/- Rows of bytes: plain laws. -/
section
set_option autoImplicit false
set_option linter.unusedVariables false
set_option linter.unusedSimpArgs false
noncomputable section
namespace Go.Ab
namespace M
/-- a value that a run does not look into. -/
def kept {α : Type} (a : α) : α := Classical.choose (⟨a, rfl⟩ : ∃ x, x = a)
theorem kept_eq {α : Type} (a : α) : kept a = a := Classical.choose_spec (⟨a, rfl⟩ : ∃ x, x = a)
/-- is a cell a byte? -/
def u8 : AV → Bool
  | .int k n => decide (k = .u8) && ileB 0 n && iltB n 256
  | _ => false
def u8L (l : List AV) : Bool := List.rec (motive := fun _ => Bool) true (fun v _ r => cb (u8 v) r false) l
def byte (v : AV) : UInt8 := UInt8.ofNat v.intOf.toNat
def bytesL (l : List AV) : List UInt8 := l.map byte
end M
open M
theorem u8_iff {v : AV} : M.u8 v = true ↔ ∃ b : UInt8, v = .int .u8 b.toNat := by
  constructor
  · intro h
    cases v <;> simp only [M.u8] at h <;> try (cases h; done)
    rename_i k n
    simp only [Bool.and_eq_true, decide_eq_true_eq, ileB_eq, iltB_eq] at h
    obtain ⟨⟨rfl, h1⟩, h2⟩ := h
    refine ⟨UInt8.ofNat n.toNat, ?_⟩
    congr 1
    have : (UInt8.ofNat n.toNat).toNat = n.toNat % 256 := by simp
    rw [this]; omega
  · rintro ⟨b, rfl⟩
    have := b.toNat_lt
    simp only [M.u8, Bool.and_eq_true, decide_eq_true_eq, ileB_eq, iltB_eq]
    refine ⟨⟨trivial, by omega⟩, by omega⟩
theorem u8L_cons (v : AV) (l : List AV) : u8L (v :: l) = (M.u8 v && u8L l) := by
  show cb (M.u8 v) (u8L l) false = _
  cases M.u8 v <;> rfl
theorem ofBytes_cons (b : UInt8) (l : List UInt8) : ofBytes (b :: l) = .int .u8 b.toNat :: ofBytes l := rfl
theorem ofBytes_length (l : List UInt8) : (ofBytes l).length = l.length := by simp [ofBytes]
theorem u8L_ofBytes (l : List UInt8) : u8L (ofBytes l) = true := by
  induction l with
  | nil => rfl
  | cons b l ih => rw [ofBytes_cons, u8L_cons, ih, Bool.and_true]; exact u8_iff.2 ⟨b, rfl⟩
theorem u8L_iff {cs : List AV} : u8L cs = true ↔ ∃ l, cs = ofBytes l := by
  constructor
  · intro h
    induction cs with
    | nil => exact ⟨[], rfl⟩
    | cons v cs ih =>
      rw [u8L_cons, Bool.and_eq_true] at h
      obtain ⟨b, rfl⟩ := u8_iff.1 h.1
      obtain ⟨l, rfl⟩ := ih h.2
      exact ⟨b :: l, rfl⟩
  · rintro ⟨l, rfl⟩; exact u8L_ofBytes l
theorem byte_int (b : UInt8) : M.byte (.int .u8 b.toNat) = b := by
  show UInt8.ofNat ((b.toNat : Int).toNat) = b
  simp
theorem bytesL_ofBytes (l : List UInt8) : bytesL (ofBytes l) = l := by
  induction l with
  | nil => rfl
  | cons b l ih =>
    show M.byte _ :: bytesL (ofBytes l) = _
    rw [ih, byte_int]
theorem bytesOf_ofBytes (l : List UInt8) : bytesOf (ofBytes l) = some l := by
  induction l with
  | nil => rfl
  | cons b l ih =>
    rw [ofBytes_cons]
    show ((byteOf (.int .u8 b.toNat)).ob fun c => (bytesOf (ofBytes l)).ob fun r => some (c :: r)) = _
    rw [ih]
    show some (UInt8.ofNat ((b.toNat : Int).toNat) :: l) = _
    simp
theorem ofBytes_plain (nf : Bool) (l : List UInt8) : AV.okL nf (fun _ => false) (ofBytes l) = true := by
  induction l with
  | nil => rfl
  | cons b l ih => rw [ofBytes_cons]; simp only [AV.okL, AV.ok, Bool.true_and]; exact ih
theorem ofBytes_plainL (l : List UInt8) : AV.plainL (ofBytes l) = true := by
  induction l with
  | nil => rfl
  | cons b l ih => rw [ofBytes_cons]; simp only [AV.plainL, AV.plain, Bool.true_and]; exact ih
theorem ofBytes_take (l : List UInt8) (n : Nat) : (ofBytes l).take n = ofBytes (l.take n) := by simp [ofBytes, List.map_take]
theorem ofBytes_drop (l : List UInt8) (n : Nat) : (ofBytes l).drop n = ofBytes (l.drop n) := by simp [ofBytes, List.map_drop]
theorem rowCut_ofBytes (l : List UInt8) (o n : Nat) : rowCut (ofBytes l) o n = ofBytes ((l.drop o).take n) := by
  unfold rowCut; rw [ofBytes_drop, ofBytes_take]
theorem listAt_ofBytes (l : List UInt8) (i : Nat) (h : i < l.length) : listAt (ofBytes l) i = some (.int .u8 (l[i]).toNat) := by
  rw [listAt_eq]; simp [ofBytes, List.getElem?_map, h]
end Go.Ab
end
end

/- Bytes: copies; words written behind bytes. -/
section
set_option autoImplicit false
set_option linter.unusedVariables false
set_option linter.unusedSimpArgs false
set_option maxRecDepth 100000
noncomputable section
namespace Go.Ab
theorem room_of {len k : Nat} (h : len ≤ 1099511627776) (hk : k ≤ 1099511627776) : appRoom 1 len k = true := by
  unfold appRoom; exact decide_eq_true (by omega)
theorem beq_of {a b : Nat} (h : a = b) : Nat.beq a b = true := by rw [nbeq]; exact decide_eq_true h
theorem beq_of1 {a b : Nat} (h : a = b) : Nat.beq a (Nat.mul b 1) = true := by rw [nbeq]; exact decide_eq_true (by show a = b * 1; omega)
theorem ble_of {a b : Nat} (h : a ≤ b) : Nat.ble a b = true := by rw [nble]; exact decide_eq_true h
theorem eq_of_beq' {a b : Nat} (h : Nat.beq a b = true) : a = b := Nat.eq_of_beq_eq_true h
theorem le_of_ble' {a b : Nat} (h : Nat.ble a b = true) : a ≤ b := Nat.le_of_ble_eq_true h
end Go.Ab
namespace Go.Proofs.Ytecncappdnhbaaa
open Go.Ab.M Go.Ab Go
/-- a copy of bytes. -/
def cloneR : RSum := RSum.nb true fun us => match us with
  | [.fsl true 0 []] => some ([], fun _ => .slice none 0 (some 0), [])
  | [.fsl false len cs] => some ([Nat.beq cs.length len, u8L cs, Nat.ble len 1099511627776], fun n => .slice (some (n, 0)) len none, [.cells true 5 len cs])
  | _ => none
theorem cloneN :
    ∃ h', aCall C0 60 (Tgt.fn 67) [AV.fsl true 0 []] H0 = some (AV.slice none 0 (some 0), h') ∧ [].map h'.get = [] :=
  call_run (q := (oc 1 [])) (c := ([])) (by kernel_rfl) trivial
theorem clone0 (len : Nat) (cs : List AV) (h0 : (cs.length.beq (len.mul 1)) = true) (h1 : (len.beq 0) = true) :
    ∃ h', aCall C0 60 (Tgt.fn 67) [AV.fsl false len cs] H0 = some (AV.slice (some (0, 0)) 0 (some 0), h') ∧ [0].map h'.get = [Blk.cells true 5 0 []] :=
  call_run (q := (oc 2 (.y :: (.y :: [])))) (c := (Cnd.tst _ true :: Cnd.tst _ true :: [])) (by kernel_rfl) ⟨h0, h1, trivial⟩
theorem clone1 (len : Nat) (cs : List AV) (h0 : (cs.length.beq (len.mul 1)) = true) (h1 : (len.beq 0) = false) (h2 : (appRoom 1 0 len) = true) (h3 : (Nat.ble 1 (0 + len)) = true) :
    ∃ h', aCall C0 60 (Tgt.fn 67) [AV.fsl false len cs] H0 = some (AV.slice (some (1, 0)) (0 + len) none, h') ∧ [1].map h'.get = [Blk.cells true 5 ([] ++ cs).length ([] ++ cs)] :=
  call_run (q := (oc 2 (.y :: (.z :: (.y :: (.y :: (oc 1 []))))))) (c := (Cnd.tst _ true :: Cnd.tst _ false :: Cnd.tst _ true :: Cnd.tst _ true :: [])) (by kernel_rfl) ⟨h0, h1, h2, h3, trivial⟩
theorem cloneR_ok : RSum.Sound Try.prog tys 67 cloneR := by
  refine RSum.sound (cx_goes _ _) all0 (RSum.nb_ok fun us c v bs hm hc => ?_)
  split at hm
  · injection hm with hm; injection hm with e1 hm; injection hm with e2 e3; subst e1; subst e2; subst e3
    obtain ⟨h', h, _⟩ := cloneN
    exact ⟨(fun b hb => by cases hb), 60, h', [], _, h, rfl, (fun l l' j e => by cases e), rfl, fun n ρ hρ => AV.Le.refl _⟩
  · rename_i len cs
    injection hm with hm; injection hm with e1 hm; injection hm with e2 e3; subst e1; subst e2; subst e3
    simp only [allTrue_cons] at hc
    obtain ⟨c1, c2, c3, _⟩ := hc
    have c1 := eq_of_beq' c1
    have c3 := le_of_ble' c3
    obtain ⟨l, rfl⟩ := u8L_iff.1 c2
    refine ⟨fun b hb => ?_, ?_⟩
    · have : b = .cells true 5 len (ofBytes l) := by simpa using hb
      subst this
      simp only [Blk.plainOwn, ofBytes_plain, Bool.and_self]
    · by_cases h0 : len = 0
      · obtain ⟨h', h, hb⟩ := clone0 len (ofBytes l) (beq_of1 c1) (beq_of h0)
        refine ⟨60, h', [0], _, h, ?_, sel_one 0, rfl, fun n ρ hρ => ?_⟩
        · rw [hb, h0]
          have : ofBytes l = [] := List.eq_nil_of_length_eq_zero (by omega)
          rw [this]
        · have := hρ 0 0 rfl
          simp only [AV.ren, Option.map_some, this, Nat.add_zero, h0]
          exact AV.Le.empty n
      · obtain ⟨h', h, hb⟩ := clone1 len (ofBytes l) (beq_of1 c1) (by rw [nbeq]; exact decide_eq_false h0) (room_of (by omega) c3) (ble_of (by omega))
        refine ⟨60, h', [1], _, h, ?_, sel_one 1, rfl, fun n ρ hρ => ?_⟩
        · rw [hb, List.nil_append, c1]
        · have := hρ 0 1 rfl
          simp only [AV.ren, Option.map_some, this, Nat.add_zero, Nat.zero_add]
          exact AV.Le.refl _
  · cases hm
end Go.Proofs.Ytecncappdnhbaaa
end
end

/- Bytes: words read off bytes; the document's writing and reading. -/
section
set_option autoImplicit false
set_option linter.unusedVariables false
set_option linter.unusedSimpArgs false
set_option maxRecDepth 100000
noncomputable section
namespace Go.Ab
namespace M
end M
open M
end Go.Ab
namespace Go.Proofs.Ytecncappdnhbaaa
open Go.Ab.M Go.Ab Go
end Go.Proofs.Ytecncappdnhbaaa
end
end

/- TapeTakes: what is known ahead of its loops. -/
section
set_option autoImplicit false
set_option linter.unusedVariables false
set_option linter.unusedSimpArgs false
set_option maxRecDepth 100000
noncomputable section
namespace Go.Proofs.Ytecncappdnhbaaa
open Go.Ab.M Go.Ab Go
theorem lives12t_ok : RSum.Sound Try.prog tys 20 (RSum.const (.bool true)) := RSum.sound (cx_goes _ _) all0 (RSum.const_ok rfl (run_val (f := 100) (by kernel_rfl)))
def K8a : Known := { t := [(67, cloneR.rt), (20, (RSum.const (.bool true)).rt)] }
theorem K8a_ok : KOK Try.prog tys K8a := ⟨⟨RSum.rt_sound cloneR_ok, RSum.rt_sound lives12t_ok, trivial⟩, trivial, trivial, trivial, trivial⟩
abbrev C8a := mkCxZ tys fns K8a
theorem all8a : SumAll Try.prog C8a := sums_allZ K8a_ok
end Go.Proofs.Ytecncappdnhbaaa
end
end

/- Bytes, turned one by one. -/
section
set_option autoImplicit false
set_option linter.unusedVariables false
set_option linter.unusedSimpArgs false
set_option maxRecDepth 100000
noncomputable section
namespace Go.Ab
namespace M
/-- bytes, turned one by one from a place on. -/
def goX : Nat → List UInt8 → Nat → List UInt8
  | 0, l, _ => l
  | k + 1, l, i => goX k (l.set i (UInt8.ofNat ((l.getD i 0).toNat ^^^ 255))) (i + 1)
end M
open M
theorem rowSet_byte (l : List UInt8) (i : Nat) (b : UInt8) (h : i < l.length) : rowSet (ofBytes l) i [.int .u8 (b.toNat : Int)] = ofBytes (l.set i b) := by
  induction l generalizing i with
  | nil => simp at h
  | cons a l ih =>
    cases i with
    | zero => rfl
    | succ i => show AV.int .u8 (a.toNat : Int) :: rowSet (ofBytes l) i _ = _; rw [ih i (by simpa using h)]; rfl
theorem goX_length (k : Nat) : ∀ (l : List UInt8) (i : Nat), (goX k l i).length = l.length := by
  induction k with
  | zero => intro l i; rfl
  | succ k ih => intro l i; show (goX k _ _).length = _; rw [ih]; simp
theorem turn_byte (l : List UInt8) (i : Nat) (h : i < l.length) : rowSet (ofBytes l) (0 + (Int.ofNat i).toNat * 1) [AV.int IntKind.u8 (xorN IntKind.u8 ((listAt (ofBytes l) (0 + (Int.ofNat i).toNat * 1)).getD AV.undef).intOf (Int.ofNat 255))] = ofBytes (l.set i (UInt8.ofNat ((l.getD i 0).toNat ^^^ 255))) := by
  have e0 : 0 + (Int.ofNat i).toNat * 1 = i := by show 0 + i * 1 = i; omega
  have hb := (l.getD i 0).toNat_lt
  have e1 : xorN IntKind.u8 ((l.getD i 0).toNat : Int) (Int.ofNat 255) = (((l.getD i 0).toNat ^^^ 255 : Nat) : Int) := xorN_nat .u8 _ 255 hb (by decide)
  have e2 : ((l.getD i 0).toNat ^^^ 255) < 2 ^ 8 := Nat.xor_lt_two_pow hb (by decide)
  have e3 : ((UInt8.ofNat ((l.getD i 0).toNat ^^^ 255)).toNat : Int) = (((l.getD i 0).toNat ^^^ 255 : Nat) : Int) := by rw [UInt8.toNat_ofNat', Nat.mod_eq_of_lt e2]
  have e4 : (listAt (ofBytes l) i).getD AV.undef = .int .u8 ((l.getD i 0).toNat : Int) := by
    rw [listAt_ofBytes l i h, List.getD_eq_getElem?_getD, List.getElem?_eq_getElem h]; rfl
  rw [e0, e4]
  show rowSet (ofBytes l) i [AV.int IntKind.u8 (xorN IntKind.u8 ((l.getD i 0).toNat : Int) (Int.ofNat 255))] = _
  rw [e1, ← e3]
  exact rowSet_byte l i _ h
/-- **A loop that turns a row's bytes one by one.** -/
theorem xorLoop {P : Program} {ty : TypeId → Option ATy} {nn k : Nat} {b : Code} {id : Nat} (st : List UInt8 → Nat → St) (X : AX) (n : Nat) (hX : X ≠ .normal)
    (hr : ∀ l i, l.length = n → i < n → CodeOK P (tyCx ty) nn k b (st l i) .normal (st (l.set i (UInt8.ofNat ((l.getD i 0).toNat ^^^ 255))) (i + 1)))
    (he : ∀ l, l.length = n → CodeOK P (tyCx ty) nn k b (st l n) X (st l n)) (l : List UInt8) (hl : l.length = n) :
    CodeOK P (tyCx ty) nn k (.block id (.loop b)) (st l 0) (AX.inBlock id X) (st (goX n l 0) n) := by
  have key := CodeOK.loop (P := P) (cx := tyCx ty) (nn := nn) (n0 := k) (b := b) (fun q : {q : List UInt8 × Nat // q.1.length = n ∧ q.2 ≤ n} => st q.1.1 q.1.2) (fun q => (X, st (goX (n - q.1.2) q.1.1 q.1.2) n)) (fun q => n - q.1.2) (fun q => by
    obtain ⟨⟨l, i⟩, h1, h2⟩ := q
    simp only at h1 h2
    by_cases hlt : i < n
    · refine .inl ⟨⟨(l.set i (UInt8.ofNat ((l.getD i 0).toNat ^^^ 255)), i + 1), by simp [h1], by simp only; omega⟩, hr l i h1 hlt, ?_, by simp only; omega⟩
      obtain ⟨j, hj⟩ : ∃ j, n - i = j + 1 := ⟨n - i - 1, by omega⟩
      simp only [hj, show n - (i + 1) = j by omega, goX]
    · have : i = n := by omega
      subst this
      refine .inr ⟨?_, hX⟩
      simp only [Nat.sub_self, goX]
      exact he l h1) ⟨(l, 0), hl, Nat.zero_le _⟩
  exact CodeOK.block id key
end Go.Ab
end
end

/- TapeTakes: its loops over rows of its own; the loop over what was taken. -/
section
set_option autoImplicit false
set_option linter.unusedVariables false
set_option linter.unusedSimpArgs false
set_option maxRecDepth 100000
noncomputable section
namespace Go.Ab
namespace M
/-- are two things the same? It is told by sight. -/
def same {α : Type} (a b : α) : Bool := @decide (a = b) (Classical.propDecidable _)
abbrev TK := List UInt8 × Int × Int
def encT (l : List TK) : List AV := l.flatMap fun x => [.str x.1, .int .i64 x.2.1, .int .i64 x.2.2]
def decT : List AV → List TK
  | .str s :: .int .i64 a :: .int .i64 n :: r => (s, a, n) :: decT r
  | _ => []
def isT : List AV → Bool
  | [] => true
  | .str s :: .int .i64 a :: .int .i64 n :: r => isT r
  | _ => false
end M
open M
theorem same_eq {α : Type} {a b : α} : same a b = true ↔ a = b := by unfold same; exact @decide_eq_true_iff _ (Classical.propDecidable _)
theorem same_self {α : Type} (a : α) : same a a = true := same_eq.2 rfl
theorem encT_cons (x : TK) (l : List TK) : encT (x :: l) = .str x.1 :: .int .i64 x.2.1 :: .int .i64 x.2.2 :: encT l := rfl
theorem encT_append (a b : List TK) : encT (a ++ b) = encT a ++ encT b := by unfold encT; rw [List.flatMap_append]
theorem encT_length (l : List TK) : (encT l).length = l.length * 3 := by
  induction l with
  | nil => rfl
  | cons x l ih => rw [encT_cons]; simp only [List.length_cons, ih]; omega
theorem decT_encT (l : List TK) : decT (encT l) = l := by
  induction l with
  | nil => rfl
  | cons x l ih => rw [encT_cons]; show (x.1, x.2.1, x.2.2) :: decT (encT l) = _; rw [ih]
theorem isT_encT (l : List TK) : isT (encT l) = true := by
  induction l with
  | nil => rfl
  | cons x l ih => rw [encT_cons]; exact ih
theorem isT_iff : ∀ {cs : List AV}, isT cs = true ↔ ∃ l, cs = encT l := by
  intro cs
  constructor
  · intro h
    obtain ⟨k, hk⟩ : ∃ k, cs.length ≤ k := ⟨_, Nat.le_refl _⟩
    induction k generalizing cs with
    | zero => cases cs with
      | nil => exact ⟨[], rfl⟩
      | cons a l => simp at hk
    | succ k ih =>
      unfold isT at h
      split at h
      · exact ⟨[], rfl⟩
      · rename_i s a n r
        obtain ⟨l, rfl⟩ := ih h (by simp only [List.length_cons] at hk; omega)
        exact ⟨(s, a, n) :: l, rfl⟩
      · cases h
  · rintro ⟨l, rfl⟩; exact isT_encT l
theorem encT_plainL (l : List TK) : AV.plainL (encT l) = true := by
  induction l with
  | nil => rfl
  | cons x l ih => rw [encT_cons]; simp only [AV.plainL, AV.plain, Bool.true_and]; exact ih
theorem encT_at (l : List TK) (i : Nat) (x : TK) (h : l[i]? = some x) : listAt (encT l) (i * 3) = some (.str x.1) ∧ listAt (encT l) (i * 3 + 1) = some (.int .i64 x.2.1) ∧ listAt (encT l) (i * 3 + 1 + 1) = some (.int .i64 x.2.2) := by
  induction l generalizing i with
  | nil => simp at h
  | cons y l ih =>
    cases i with
    | zero => simp at h; subst h; exact ⟨rfl, rfl, rfl⟩
    | succ i =>
      obtain ⟨h1, h2, h3⟩ := ih i (by simpa using h)
      rw [listAt_eq] at h1 h2 h3 ⊢
      rw [listAt_eq, listAt_eq, encT_cons, show (i + 1) * 3 = i * 3 + 1 + 1 + 1 by omega]
      exact ⟨by simpa using h1, by simpa using h2, by simpa using h3⟩
end Go.Ab
namespace Go.Proofs.Ytecncappdnhbaaa
open Go.Ab.M Go.Ab Go
theorem tx_r (a : Bool) (lb : Nat) (b : List AV) (a1 : Bool) (l1 : Nat) (ns : List AV) (n : Nat) (c : Option Nat) (cs : List AV) (bs : List AV) (m : Nat) (i : Nat) (h0 : (iltB (Int.ofNat i) (Int.ofNat m)) = true) (h1 : ((Int.ofNat i).toNat.succ.ble n) = true) (h2 : ((0 + (Int.ofNat i).toNat * 1).succ.ble n) = true) (h3 : ((0 + (Int.ofNat i).toNat * 1).succ.ble cs.length) = true) (h4 : (AV.isInt IntKind.u8 ((listAt cs (0 + (Int.ofNat i).toNat * 1)).getD AV.undef)) = true) (h5 : ((0 + (Int.ofNat i).toNat * 1 + 1).ble n) = true) (h6 : (AV.plainL b) = true) (h7 : (AV.plainL ns) = true) (h8 : (AV.plainL (rowSet cs (0 + (Int.ofNat i).toNat * 1) [AV.int IntKind.u8 (xorN IntKind.u8 ((listAt cs (0 + (Int.ofNat i).toNat * 1)).getD AV.undef).intOf (Int.ofNat 255))])) = true) (h9 : (AV.plainL bs) = true) :
    CodeOK Try.prog (tyCx tys) 194 3 (roundOf (blockOf Try.f9 0)) { fr := frameOf 194 ([0, 1, 5, 6, 46, 47].zip [AV.fsl a lb b, AV.fsl a1 l1 ns, AV.slice (some (0, 0)) n c, AV.ptr (some (1, 0)), AV.int IntKind.i64 (Int.ofNat m), AV.int IntKind.i64 (Int.ofNat i)]), ds := upTo 0, H := mkL [Blk.cells true 5 n cs, Blk.cells true 116 3 [AV.slice (some (2, 0)) n none, AV.int IntKind.i64 (Int.ofNat 0), AV.slice none 0 (some 0)], Blk.cells true 5 n bs] } (AX.normal) ⟨frameOf 194 ([0, 1, 5, 6, 46, 47].zip [AV.fsl a lb b, AV.fsl a1 l1 ns, AV.slice (some (0, 0)) n c, AV.ptr (some (1, 0)), AV.int IntKind.i64 (Int.ofNat m), AV.int IntKind.i64 (wrapA IntKind.i64 ((Int.ofNat i).add (Int.ofNat 1)))]), upTo 0, mkL [Blk.cells true 5 n (rowSet cs (0 + (Int.ofNat i).toNat * 1) [AV.int IntKind.u8 (xorN IntKind.u8 ((listAt cs (0 + (Int.ofNat i).toNat * 1)).getD AV.undef).intOf (Int.ofNat 255))]), Blk.cells true 116 3 [AV.slice (some (2, 0)) n none, AV.int IntKind.i64 (Int.ofNat 0), AV.slice none 0 (some 0)], Blk.cells true 5 n bs]⟩ :=
  zrows_run (g := 30) (k := 9) (f := 30) (sl := [0, 1, 5, 6, 46, 47]) (ks := [0, 1, 2]) (rs := []) (ds := []) (cxZ cx_goes) all8a (q := (.y :: (oc 1 (.y :: (.y :: (.y :: (.y :: (oc 1 (.y :: (oc 2 (.y :: []))))))))))) (c := (Cnd.tst _ true :: Cnd.tst _ true :: Cnd.tst _ true :: Cnd.tst _ true :: Cnd.tst _ true :: Cnd.tst _ true :: Cnd.tst _ true :: [])) (cq := [AV.plainL b, AV.plainL ns, true, true, true, AV.plainL (rowSet cs (0 + (Int.ofNat i).toNat * 1) [AV.int IntKind.u8 (xorN IntKind.u8 ((listAt cs (0 + (Int.ofNat i).toNat * 1)).getD AV.undef).intOf (Int.ofNat 255))]), true, true, true, AV.plainL bs]) (by kernel_rfl) ⟨h0, h1, h2, h3, h4, h1, h5, trivial⟩ (holdsB ⟨h6, h7, rfl, rfl, rfl, h8, rfl, rfl, rfl, h9, trivial⟩) (by kernel_rfl) (by kernel_rfl) (by kernel_rfl) (by kernel_rfl) (by kernel_rfl)
theorem tx_e (a : Bool) (lb : Nat) (b : List AV) (a1 : Bool) (l1 : Nat) (ns : List AV) (n : Nat) (c : Option Nat) (cs : List AV) (bs : List AV) (m : Nat) (i : Nat) (h0 : (iltB (Int.ofNat i) (Int.ofNat m)) = false) (h1 : (AV.plainL b) = true) (h2 : (AV.plainL ns) = true) (h3 : (AV.plainL cs) = true) (h4 : (AV.plainL bs) = true) :
    CodeOK Try.prog (tyCx tys) 194 3 (roundOf (blockOf Try.f9 0)) { fr := frameOf 194 ([0, 1, 5, 6, 46, 47].zip [AV.fsl a lb b, AV.fsl a1 l1 ns, AV.slice (some (0, 0)) n c, AV.ptr (some (1, 0)), AV.int IntKind.i64 (Int.ofNat m), AV.int IntKind.i64 (Int.ofNat i)]), ds := upTo 0, H := mkL [Blk.cells true 5 n cs, Blk.cells true 116 3 [AV.slice (some (2, 0)) n none, AV.int IntKind.i64 (Int.ofNat 0), AV.slice none 0 (some 0)], Blk.cells true 5 n bs] } (AX.exit 0) ⟨frameOf 194 ([0, 1, 5, 6, 46, 47].zip [AV.fsl a lb b, AV.fsl a1 l1 ns, AV.slice (some (0, 0)) n c, AV.ptr (some (1, 0)), AV.int IntKind.i64 (Int.ofNat m), AV.int IntKind.i64 (Int.ofNat i)]), upTo 0, mkL [Blk.cells true 5 n cs, Blk.cells true 116 3 [AV.slice (some (2, 0)) n none, AV.int IntKind.i64 (Int.ofNat 0), AV.slice none 0 (some 0)], Blk.cells true 5 n bs]⟩ :=
  zrows_run (g := 30) (k := 9) (f := 30) (sl := [0, 1, 5, 6, 46, 47]) (ks := [0, 1, 2]) (rs := []) (ds := []) (cxZ cx_goes) all8a (q := (.z :: [])) (c := (Cnd.tst _ false :: [])) (cq := [AV.plainL b, AV.plainL ns, true, true, true, AV.plainL cs, true, true, true, AV.plainL bs]) (by kernel_rfl) ⟨h0, trivial⟩ (holdsB ⟨h1, h2, rfl, rfl, rfl, h3, rfl, rfl, rfl, h4, trivial⟩) (by kernel_rfl) (by kernel_rfl) (by kernel_rfl) (by kernel_rfl) (by kernel_rfl)
theorem tin_r (a : Bool) (lb : Nat) (b : List AV) (at_ : Int) (m : Nat) (a1 : Bool) (l1 : Nat) (ns : List AV) (l2 : Int) (i2 : Int) (n : Nat) (m3 : Nat) (i : Nat) (at2 : Int) (m2 : Nat) (ws : List AV) (xs : List AV) (bs : List AV) (ts : List AV) (h0 : (iltB (Int.ofNat i) (Int.ofNat m3)) = true) (h1 : ((Int.ofNat i).toNat.succ.ble n) = true) (h2 : ((0 + (Int.ofNat i).toNat * 1).succ.ble n) = true) (h3 : ((0 + (Int.ofNat i).toNat * 1).succ.ble xs.length) = true) (h4 : (AV.isInt IntKind.u8 ((listAt xs (0 + (Int.ofNat i).toNat * 1)).getD AV.undef)) = true) (h5 : ((0 + (Int.ofNat i).toNat * 1 + 1).ble n) = true) (h6 : (AV.plainL b) = true) (h7 : (AV.plainL ns) = true) (h8 : (AV.plainL ws) = true) (h9 : (AV.plainL (rowSet xs (0 + (Int.ofNat i).toNat * 1) [AV.int IntKind.u8 (xorN IntKind.u8 ((listAt xs (0 + (Int.ofNat i).toNat * 1)).getD AV.undef).intOf (Int.ofNat 255))])) = true) (h10 : (AV.plainL bs) = true) (h11 : (AV.plainL ts) = true) :
    CodeOK Try.prog (tyCx tys) 194 5 (roundOf (blockOf Try.f9 5)) { fr := frameOf 194 ([0, 6, 9, 10, 57, 58, 59, 14, 102, 103].zip [AV.fsl a lb b, AV.ptr (some (0, 0)), AV.int IntKind.i64 at_, AV.slice (some (1, 0)) m none, AV.fsl a1 l1 ns, AV.int IntKind.i64 l2, AV.int IntKind.i64 i2, AV.slice (some (2, 0)) n none, AV.int IntKind.i64 (Int.ofNat m3), AV.int IntKind.i64 (Int.ofNat i)]), ds := upTo 0, H := mkL [Blk.cells true 116 3 [AV.slice (some (3, 0)) lb none, AV.int IntKind.i64 at2, AV.slice (some (4, 0)) m2 none], Blk.cells true 62 (m * 3) ws, Blk.cells true 5 n xs, Blk.cells true 5 lb bs, Blk.cells true 62 (m2 * 3) ts] } (AX.normal) ⟨frameOf 194 ([0, 6, 9, 10, 57, 58, 59, 14, 102, 103].zip [AV.fsl a lb b, AV.ptr (some (0, 0)), AV.int IntKind.i64 at_, AV.slice (some (1, 0)) m none, AV.fsl a1 l1 ns, AV.int IntKind.i64 l2, AV.int IntKind.i64 i2, AV.slice (some (2, 0)) n none, AV.int IntKind.i64 (Int.ofNat m3), AV.int IntKind.i64 (wrapA IntKind.i64 ((Int.ofNat i).add (Int.ofNat 1)))]), upTo 0, mkL [Blk.cells true 116 3 [AV.slice (some (3, 0)) lb none, AV.int IntKind.i64 at2, AV.slice (some (4, 0)) m2 none], Blk.cells true 62 (m * 3) ws, Blk.cells true 5 n (rowSet xs (0 + (Int.ofNat i).toNat * 1) [AV.int IntKind.u8 (xorN IntKind.u8 ((listAt xs (0 + (Int.ofNat i).toNat * 1)).getD AV.undef).intOf (Int.ofNat 255))]), Blk.cells true 5 lb bs, Blk.cells true 62 (m2 * 3) ts]⟩ :=
  zrows_run (g := 30) (k := 9) (f := 30) (sl := [0, 6, 9, 10, 57, 58, 59, 14, 102, 103]) (ks := [0, 1, 2, 3, 4]) (rs := []) (ds := []) (cxZ cx_goes) all8a (q := (.y :: (oc 1 (.y :: (.y :: (.y :: (.y :: (oc 1 (.y :: (oc 2 (.y :: []))))))))))) (c := (Cnd.tst _ true :: Cnd.tst _ true :: Cnd.tst _ true :: Cnd.tst _ true :: Cnd.tst _ true :: Cnd.tst _ true :: Cnd.tst _ true :: [])) (cq := [AV.plainL b, true, true, AV.plainL ns, true, true, true, true, true, AV.plainL ws, true, AV.plainL (rowSet xs (0 + (Int.ofNat i).toNat * 1) [AV.int IntKind.u8 (xorN IntKind.u8 ((listAt xs (0 + (Int.ofNat i).toNat * 1)).getD AV.undef).intOf (Int.ofNat 255))]), true, AV.plainL bs, true, AV.plainL ts]) (by kernel_rfl) ⟨h0, h1, h2, h3, h4, h1, h5, trivial⟩ (holdsB ⟨h6, rfl, rfl, h7, rfl, rfl, rfl, rfl, rfl, h8, rfl, h9, rfl, h10, rfl, h11, trivial⟩) (by kernel_rfl) (by kernel_rfl) (by kernel_rfl) (by kernel_rfl) (by kernel_rfl)
theorem tin_e (a : Bool) (lb : Nat) (b : List AV) (at_ : Int) (m : Nat) (a1 : Bool) (l1 : Nat) (ns : List AV) (l2 : Int) (i2 : Int) (n : Nat) (m3 : Nat) (i : Nat) (at2 : Int) (m2 : Nat) (ws : List AV) (xs : List AV) (bs : List AV) (ts : List AV) (h0 : (iltB (Int.ofNat i) (Int.ofNat m3)) = false) (h1 : (AV.plainL b) = true) (h2 : (AV.plainL ns) = true) (h3 : (AV.plainL ws) = true) (h4 : (AV.plainL xs) = true) (h5 : (AV.plainL bs) = true) (h6 : (AV.plainL ts) = true) :
    CodeOK Try.prog (tyCx tys) 194 5 (roundOf (blockOf Try.f9 5)) { fr := frameOf 194 ([0, 6, 9, 10, 57, 58, 59, 14, 102, 103].zip [AV.fsl a lb b, AV.ptr (some (0, 0)), AV.int IntKind.i64 at_, AV.slice (some (1, 0)) m none, AV.fsl a1 l1 ns, AV.int IntKind.i64 l2, AV.int IntKind.i64 i2, AV.slice (some (2, 0)) n none, AV.int IntKind.i64 (Int.ofNat m3), AV.int IntKind.i64 (Int.ofNat i)]), ds := upTo 0, H := mkL [Blk.cells true 116 3 [AV.slice (some (3, 0)) lb none, AV.int IntKind.i64 at2, AV.slice (some (4, 0)) m2 none], Blk.cells true 62 (m * 3) ws, Blk.cells true 5 n xs, Blk.cells true 5 lb bs, Blk.cells true 62 (m2 * 3) ts] } (AX.exit 5) ⟨frameOf 194 ([0, 6, 9, 10, 57, 58, 59, 14, 102, 103].zip [AV.fsl a lb b, AV.ptr (some (0, 0)), AV.int IntKind.i64 at_, AV.slice (some (1, 0)) m none, AV.fsl a1 l1 ns, AV.int IntKind.i64 l2, AV.int IntKind.i64 i2, AV.slice (some (2, 0)) n none, AV.int IntKind.i64 (Int.ofNat m3), AV.int IntKind.i64 (Int.ofNat i)]), upTo 0, mkL [Blk.cells true 116 3 [AV.slice (some (3, 0)) lb none, AV.int IntKind.i64 at2, AV.slice (some (4, 0)) m2 none], Blk.cells true 62 (m * 3) ws, Blk.cells true 5 n xs, Blk.cells true 5 lb bs, Blk.cells true 62 (m2 * 3) ts]⟩ :=
  zrows_run (g := 30) (k := 9) (f := 30) (sl := [0, 6, 9, 10, 57, 58, 59, 14, 102, 103]) (ks := [0, 1, 2, 3, 4]) (rs := []) (ds := []) (cxZ cx_goes) all8a (q := (.z :: [])) (c := (Cnd.tst _ false :: [])) (cq := [AV.plainL b, true, true, AV.plainL ns, true, true, true, true, true, AV.plainL ws, true, AV.plainL xs, true, AV.plainL bs, true, AV.plainL ts]) (by kernel_rfl) ⟨h0, trivial⟩ (holdsB ⟨h1, rfl, rfl, h2, rfl, rfl, rfl, rfl, rfl, h3, rfl, h4, rfl, h5, rfl, h6, trivial⟩) (by kernel_rfl) (by kernel_rfl) (by kernel_rfl) (by kernel_rfl) (by kernel_rfl)
theorem it_r0 (n : Nat) (i : Nat) (cs : List AV) (h0 : (iltB (Int.ofNat i) (Int.ofNat n)) = true) (h1 : ((Int.ofNat i).toNat.succ.ble n) = true) (h2 : ((0 + (Int.ofNat i).toNat * 3 + 3).ble (n * 3)) = true) (h3 : ((0 + (Int.ofNat i).toNat * 3).succ.ble cs.length) = true) (h4 : (((listAt cs (0 + (Int.ofNat i).toNat * 3)).getD AV.undef).isStr) = true) (h5 : ((0 + (Int.ofNat i).toNat * 3 + 1).succ.ble cs.length) = true) (h6 : (AV.isInt IntKind.i64 ((listAt cs (0 + (Int.ofNat i).toNat * 3 + 1)).getD AV.undef)) = true) (h7 : ((0 + (Int.ofNat i).toNat * 3 + 1 + 1).succ.ble cs.length) = true) (h8 : (AV.isInt IntKind.i64 ((listAt cs (0 + (Int.ofNat i).toNat * 3 + 1 + 1)).getD AV.undef)) = true) (h9 : (AV.plainL cs) = true) :
    CodeOK Try.prog (tyCx tys) 16 4 (roundOf (blockOf Try.f102 0)) { fr := frameOf 16 ([0, 5, 6, 7].zip [AV.yield 0, AV.slice (some (1, 0)) n none, AV.int IntKind.i64 (Int.ofNat n), AV.int IntKind.i64 (Int.ofNat i)]), ds := upTo 0, H := mkL [Blk.loop 38 12 (frameOf 12 [(3, AV.ptr (some (3, 0)))]) (rps Try.f38) (rasg Try.f38) (rbody Try.f38) 2 LS.ready, Blk.cells true 62 (n * 3) cs, Blk.dfr, Blk.cells true 58 1 [AV.slice none 0 (some 0)]] } (AX.normal) ⟨frameOf 16 ([0, 5, 6, 7].zip [AV.yield 0, AV.slice (some (1, 0)) n none, AV.int IntKind.i64 (Int.ofNat n), AV.int IntKind.i64 (wrapA IntKind.i64 ((Int.ofNat i).add (Int.ofNat 1)))]), upTo 0, mkL [Blk.loop 38 12 (frameOf 12 [(3, AV.ptr (some (3, 0)))]) (rps Try.f38) (rasg Try.f38) (rbody Try.f38) 2 (LS.ready), Blk.cells true 62 (n * 3) cs, Blk.dfr, Blk.cells true 58 1 [AV.slice (some (4, 0)) 1 none], Blk.cells true 62 3 [AV.str (AV.str (AV.str ((listAt cs (0 + (Int.ofNat i).toNat * 3)).getD AV.undef).strOf).strOf).strOf, AV.int IntKind.i64 (AV.int IntKind.i64 (AV.int IntKind.i64 ((listAt cs (0 + (Int.ofNat i).toNat * 3 + 1)).getD AV.undef).intOf).intOf).intOf, AV.int IntKind.i64 (AV.int IntKind.i64 (AV.int IntKind.i64 ((listAt cs (0 + (Int.ofNat i).toNat * 3 + 1 + 1)).getD AV.undef).intOf).intOf).intOf]]⟩ :=
  zrows_run (g := 30) (k := 102) (f := 30) (sl := [0, 5, 6, 7]) (ks := [0, 1, 2, 3, 7]) (rs := [3]) (ds := []) (cxZ cx_goes) all8a (q := (.y :: (oc 1 (.y :: (.y :: (.y :: (.y :: (.y :: (.y :: (.y :: (.y :: (oc 33 [])))))))))))) (c := (Cnd.tst _ true :: Cnd.tst _ true :: Cnd.tst _ true :: Cnd.tst _ true :: Cnd.tst _ true :: Cnd.tst _ true :: Cnd.tst _ true :: Cnd.tst _ true :: Cnd.tst _ true :: [])) (cq := [true, true, true, true, true, AV.plainL cs, true, true, true, true]) (by kernel_rfl) ⟨h0, h1, h2, h3, h4, h5, h6, h7, h8, trivial⟩ (holdsB ⟨rfl, rfl, rfl, rfl, rfl, h9, rfl, rfl, rfl, rfl, trivial⟩) (by kernel_rfl) (by kernel_rfl) (by kernel_rfl) (by kernel_rfl) (by kernel_rfl)
theorem it_r1 (n : Nat) (i : Nat) (cs : List AV) (os : List AV) (h0 : (iltB (Int.ofNat i) (Int.ofNat n)) = true) (h1 : ((Int.ofNat i).toNat.succ.ble n) = true) (h2 : ((0 + (Int.ofNat i).toNat * 3 + 3).ble (n * 3)) = true) (h3 : ((0 + (Int.ofNat i).toNat * 3).succ.ble cs.length) = true) (h4 : (((listAt cs (0 + (Int.ofNat i).toNat * 3)).getD AV.undef).isStr) = true) (h5 : ((0 + (Int.ofNat i).toNat * 3 + 1).succ.ble cs.length) = true) (h6 : (AV.isInt IntKind.i64 ((listAt cs (0 + (Int.ofNat i).toNat * 3 + 1)).getD AV.undef)) = true) (h7 : ((0 + (Int.ofNat i).toNat * 3 + 1 + 1).succ.ble cs.length) = true) (h8 : (AV.isInt IntKind.i64 ((listAt cs (0 + (Int.ofNat i).toNat * 3 + 1 + 1)).getD AV.undef)) = true) (h9 : (appRoom 32 i 1) = true) (h10 : ((i * 3).beq (i * 3)) = true) (h11 : (AV.plainL cs) = true) (h12 : (AV.plainL (os ++ [AV.str (AV.str (AV.str ((listAt cs (0 + (Int.ofNat i).toNat * 3)).getD AV.undef).strOf).strOf).strOf, AV.int IntKind.i64 (AV.int IntKind.i64 (AV.int IntKind.i64 ((listAt cs (0 + (Int.ofNat i).toNat * 3 + 1)).getD AV.undef).intOf).intOf).intOf, AV.int IntKind.i64 (AV.int IntKind.i64 (AV.int IntKind.i64 ((listAt cs (0 + (Int.ofNat i).toNat * 3 + 1 + 1)).getD AV.undef).intOf).intOf).intOf])) = true) :
    CodeOK Try.prog (tyCx tys) 16 4 (roundOf (blockOf Try.f102 0)) { fr := frameOf 16 ([0, 5, 6, 7].zip [AV.yield 0, AV.slice (some (1, 0)) n none, AV.int IntKind.i64 (Int.ofNat n), AV.int IntKind.i64 (Int.ofNat i)]), ds := upTo 0, H := mkL [Blk.loop 38 12 (frameOf 12 [(3, AV.ptr (some (3, 0)))]) (rps Try.f38) (rasg Try.f38) (rbody Try.f38) 2 LS.ready, Blk.cells true 62 (n * 3) cs, Blk.dfr, Blk.cells true 58 1 [AV.slice (some (4, 0)) i none], Blk.cells true 62 (i * 3) os] } (AX.normal) ⟨frameOf 16 ([0, 5, 6, 7].zip [AV.yield 0, AV.slice (some (1, 0)) n none, AV.int IntKind.i64 (Int.ofNat n), AV.int IntKind.i64 (wrapA IntKind.i64 ((Int.ofNat i).add (Int.ofNat 1)))]), upTo 0, mkL [Blk.loop 38 12 (frameOf 12 [(3, AV.ptr (some (3, 0)))]) (rps Try.f38) (rasg Try.f38) (rbody Try.f38) 2 (LS.ready), Blk.cells true 62 (n * 3) cs, Blk.dfr, Blk.cells true 58 1 [AV.slice (some (4, 0)) (i + 1) none], Blk.cells true 62 (os ++ [AV.str (AV.str (AV.str ((listAt cs (0 + (Int.ofNat i).toNat * 3)).getD AV.undef).strOf).strOf).strOf, AV.int IntKind.i64 (AV.int IntKind.i64 (AV.int IntKind.i64 ((listAt cs (0 + (Int.ofNat i).toNat * 3 + 1)).getD AV.undef).intOf).intOf).intOf, AV.int IntKind.i64 (AV.int IntKind.i64 (AV.int IntKind.i64 ((listAt cs (0 + (Int.ofNat i).toNat * 3 + 1 + 1)).getD AV.undef).intOf).intOf).intOf]).length (os ++ [AV.str (AV.str (AV.str ((listAt cs (0 + (Int.ofNat i).toNat * 3)).getD AV.undef).strOf).strOf).strOf, AV.int IntKind.i64 (AV.int IntKind.i64 (AV.int IntKind.i64 ((listAt cs (0 + (Int.ofNat i).toNat * 3 + 1)).getD AV.undef).intOf).intOf).intOf, AV.int IntKind.i64 (AV.int IntKind.i64 (AV.int IntKind.i64 ((listAt cs (0 + (Int.ofNat i).toNat * 3 + 1 + 1)).getD AV.undef).intOf).intOf).intOf])]⟩ :=
  zrows_run (g := 30) (k := 102) (f := 30) (sl := [0, 5, 6, 7]) (ks := [0, 1, 2, 3, 8]) (rs := [3]) (ds := []) (cxZ cx_goes) all8a (q := (.y :: (oc 1 (.y :: (.y :: (.y :: (.y :: (.y :: (.y :: (.y :: (.y :: (oc 28 (.y :: (.y :: (oc 5 []))))))))))))))) (c := (Cnd.tst _ true :: Cnd.tst _ true :: Cnd.tst _ true :: Cnd.tst _ true :: Cnd.tst _ true :: Cnd.tst _ true :: Cnd.tst _ true :: Cnd.tst _ true :: Cnd.tst _ true :: Cnd.tst _ true :: Cnd.tst _ true :: [])) (cq := [true, true, true, true, true, AV.plainL cs, true, true, true, AV.plainL (os ++ [AV.str (AV.str (AV.str ((listAt cs (0 + (Int.ofNat i).toNat * 3)).getD AV.undef).strOf).strOf).strOf, AV.int IntKind.i64 (AV.int IntKind.i64 (AV.int IntKind.i64 ((listAt cs (0 + (Int.ofNat i).toNat * 3 + 1)).getD AV.undef).intOf).intOf).intOf, AV.int IntKind.i64 (AV.int IntKind.i64 (AV.int IntKind.i64 ((listAt cs (0 + (Int.ofNat i).toNat * 3 + 1 + 1)).getD AV.undef).intOf).intOf).intOf])]) (by kernel_rfl) ⟨h0, h1, h2, h3, h4, h5, h6, h7, h8, h9, h10, trivial⟩ (holdsB ⟨rfl, rfl, rfl, rfl, rfl, h11, rfl, rfl, rfl, h12, trivial⟩) (by kernel_rfl) (by kernel_rfl) (by kernel_rfl) (by kernel_rfl) (by kernel_rfl)
theorem it_e1 (n : Nat) (i : Nat) (cs : List AV) (os : List AV) (h0 : (iltB (Int.ofNat i) (Int.ofNat n)) = false) (h1 : (AV.plainL cs) = true) (h2 : (AV.plainL os) = true) :
    CodeOK Try.prog (tyCx tys) 16 4 (roundOf (blockOf Try.f102 0)) { fr := frameOf 16 ([0, 5, 6, 7].zip [AV.yield 0, AV.slice (some (1, 0)) n none, AV.int IntKind.i64 (Int.ofNat n), AV.int IntKind.i64 (Int.ofNat i)]), ds := upTo 0, H := mkL [Blk.loop 38 12 (frameOf 12 [(3, AV.ptr (some (3, 0)))]) (rps Try.f38) (rasg Try.f38) (rbody Try.f38) 2 LS.ready, Blk.cells true 62 (n * 3) cs, Blk.dfr, Blk.cells true 58 1 [AV.slice (some (4, 0)) i none], Blk.cells true 62 (i * 3) os] } (AX.exit 0) ⟨frameOf 16 ([0, 5, 6, 7].zip [AV.yield 0, AV.slice (some (1, 0)) n none, AV.int IntKind.i64 (Int.ofNat n), AV.int IntKind.i64 (Int.ofNat i)]), upTo 0, mkL [Blk.loop 38 12 (frameOf 12 [(3, AV.ptr (some (3, 0)))]) (rps Try.f38) (rasg Try.f38) (rbody Try.f38) 2 (LS.ready), Blk.cells true 62 (n * 3) cs, Blk.dfr, Blk.cells true 58 1 [AV.slice (some (4, 0)) i none], Blk.cells true 62 (i * 3) os]⟩ :=
  zrows_run (g := 30) (k := 102) (f := 30) (sl := [0, 5, 6, 7]) (ks := [0, 1, 2, 3, 4]) (rs := [3]) (ds := []) (cxZ cx_goes) all8a (q := (.z :: [])) (c := (Cnd.tst _ false :: [])) (cq := [true, true, true, true, true, AV.plainL cs, true, true, true, AV.plainL os]) (by kernel_rfl) ⟨h0, trivial⟩ (holdsB ⟨rfl, rfl, rfl, rfl, rfl, h1, rfl, rfl, rfl, h2, trivial⟩) (by kernel_rfl) (by kernel_rfl) (by kernel_rfl) (by kernel_rfl) (by kernel_rfl)
def tL0 : ZLoop := ⟨194, blockOf Try.f9 0, [0, 1, 5, 6, 46, 47], 0, [], fun vs bs => match vs, bs with
  | [.fsl a lb b, .fsl a1 l1 ns, .slice (some (0, 0)) n c, .ptr (some (1, 0)), .int .i64 (.ofNat m), .int .i64 (.ofNat i)], [.cells true 5 n' cs, .cells true 116 3 [.slice (some (2, 0)) n2 none, .int .i64 (.ofNat z), .slice none 0 (some 0)], .cells true 5 n3 ds] =>
    some ([u8L cs, Nat.beq cs.length n, Nat.beq n' n, Nat.beq m n, Nat.beq i 0, Nat.blt n 1000000, Nat.beq n2 n, Nat.beq z 0, Nat.beq n3 n, AV.plainL b, AV.plainL ns, AV.plainL ds], .normal, [.fsl a lb b, .fsl a1 l1 ns, .slice (some (0, 0)) n c, .ptr (some (1, 0)), .int .i64 (Int.ofNat n), .int .i64 (Int.ofNat n)], [.cells true 5 n (kept (ofBytes (goX n (bytesL cs) 0))), .cells true 116 3 [.slice (some (2, 0)) n none, .int .i64 (Int.ofNat 0), .slice none 0 (some 0)], .cells true 5 n ds])
  | _, _ => none⟩
theorem tL0_ok : tL0.OK Try.prog (tyCx tys) (flOf tys) 0 := by
  intro vs bs conds X vs' bs' h hc hin
  simp only [tL0] at h
  split at h
  · rename_i a lb b a1 l1 ns n c m i n' cs n2 z n3 ds
    injection h with h; injection h with e1 h; injection h with e2 h; injection h with e3 e4
    rw [kept_eq] at e4
    subst e1; subst e2; subst e3; subst e4
    simp only [allTrue_cons] at hc
    obtain ⟨c1, c2, c3, c4, c5, c6, c7, c8, c9, p1, p2, p3, _⟩ := hc
    obtain ⟨l, rfl⟩ := u8L_iff.1 c1
    have c2 := eq_of_beq' c2
    have c3 := eq_of_beq' c3
    have c4 := eq_of_beq' c4
    have c5 := eq_of_beq' c5
    have c7 := eq_of_beq' c7
    have c8 := eq_of_beq' c8
    have c9 := eq_of_beq' c9
    rw [ofBytes_length] at c2
    subst c3; subst c5; subst c4; subst c7; subst c8; subst c9
    rw [bytesL_ofBytes]
    have hn : l.length < 1000000 := by rw [c2]; simpa [Nat.blt_eq] using c6
    subst c2
    refine xorLoop (b := roundOf (blockOf Try.f9 0)) (fun l' i => tL0.st ([.fsl a lb b, .fsl a1 l1 ns, .slice (some (0, 0)) l.length c, .ptr (some (1, 0)), .int .i64 (Int.ofNat l.length), .int .i64 (Int.ofNat i)], [.cells true 5 l.length (ofBytes l'), .cells true 116 3 [.slice (some (2, 0)) l.length none, .int .i64 (Int.ofNat 0), .slice none 0 (some 0)], .cells true 5 l.length ds])) (.exit 0) l.length (by simp) (fun l' i hl hi => ?_) (fun l' hl => ?_) l rfl
    · have hlt : iltB (Int.ofNat i) (Int.ofNat l.length) = true := by rw [iltB_eq]; exact decide_eq_true (by show (i : Int) < (l.length : Int); omega)
      have z0 : 0 + (Int.ofNat i).toNat * 1 = i := by show 0 + i * 1 = i; omega
      have hA : AV.isInt IntKind.u8 ((listAt (ofBytes l') (0 + (Int.ofNat i).toNat * 1)).getD AV.undef) = true := by
        rw [z0, listAt_ofBytes l' i (by omega)]; rfl
      have key := tx_r a lb b a1 l1 ns l.length c (ofBytes l') ds l.length i hlt (ble_of (by show i + 1 ≤ _; omega)) (ble_of (by rw [z0]; omega)) (ble_of (by rw [z0, ofBytes_length]; omega)) hA (ble_of (by rw [z0]; omega)) p1 p2 (by rw [turn_byte l' i (by omega)]; exact ofBytes_plainL _) p3
      have hw : wrapA .i64 ((Int.ofNat i).add (Int.ofNat 1)) = Int.ofNat (i + 1) := wrapA_nat .i64 (i + 1) (by show _ < 9223372036854775808; omega)
      rw [turn_byte l' i (by omega), hw] at key
      exact key
    · have hlt : iltB (Int.ofNat l.length) (Int.ofNat l.length) = false := by rw [iltB_eq]; exact decide_eq_false (by show ¬ (l.length : Int) < (l.length : Int); omega)
      exact tx_e a lb b a1 l1 ns l.length c (ofBytes l') ds l.length l.length hlt p1 p2 (ofBytes_plainL _) p3
  · cases h
def tIn : ZLoop := ⟨194, blockOf Try.f9 5, [0, 6, 9, 10, 57, 58, 59, 14, 102, 103], 0, [], fun vs bs => match vs, bs with
  | [.fsl a lb b, .ptr (some (0, 0)), .int .i64 at_, .slice (some (1, 0)) m none, .fsl a1 l1 ns, .int .i64 l2, .int .i64 i2, .slice (some (2, 0)) n none, .int .i64 (.ofNat m3), .int .i64 (.ofNat i)], [.cells true 116 3 [.slice (some (3, 0)) lb2 none, .int .i64 at2, .slice (some (4, 0)) m2 none], .cells true 62 k1 ws, .cells true 5 n' xs, .cells true 5 k3 ds, .cells true 62 k2 ts] =>
    some ([u8L xs, Nat.beq xs.length n, Nat.beq n' n, Nat.beq m3 n, Nat.beq i 0, Nat.blt n 1000000, Nat.beq lb2 lb, Nat.beq k1 (m * 3), Nat.beq k2 (m2 * 3), Nat.beq k3 lb, AV.plainL b, AV.plainL ns, AV.plainL ds, AV.plainL ws, AV.plainL ts], .normal,
      [.fsl a lb b, .ptr (some (0, 0)), .int .i64 at_, .slice (some (1, 0)) m none, .fsl a1 l1 ns, .int .i64 l2, .int .i64 i2, .slice (some (2, 0)) n none, .int .i64 (Int.ofNat n), .int .i64 (Int.ofNat n)], [.cells true 116 3 [.slice (some (3, 0)) lb none, .int .i64 at2, .slice (some (4, 0)) m2 none], .cells true 62 (m * 3) ws, .cells true 5 n (kept (ofBytes (goX n (bytesL xs) 0))), .cells true 5 lb ds, .cells true 62 (m2 * 3) ts])
  | _, _ => none⟩
theorem tIn_ok : tIn.OK Try.prog (tyCx tys) (flOf tys) 5 := by
  intro vs bs conds X vs' bs' h hc hin
  simp only [tIn] at h
  split at h
  · rename_i a lb b at_ m a1 l1 ns l2 i2 n m3 i lb2 at2 m2 k1 ws n' xs k3 ds k2 ts
    injection h with h; injection h with e1 h; injection h with e2 h; injection h with e3 e4
    rw [kept_eq] at e4
    subst e1; subst e2; subst e3; subst e4
    simp only [allTrue_cons] at hc
    obtain ⟨c1, c2, c3, c4, c5, c6, c7, c8, c9, c10, p1, p2, p3, p4, p5, _⟩ := hc
    obtain ⟨l, rfl⟩ := u8L_iff.1 c1
    have c2 := eq_of_beq' c2
    have c3 := eq_of_beq' c3
    have c4 := eq_of_beq' c4
    have c5 := eq_of_beq' c5
    have c7 := eq_of_beq' c7
    have c8 := eq_of_beq' c8
    have c9 := eq_of_beq' c9
    have c10 := eq_of_beq' c10
    rw [ofBytes_length] at c2
    subst c3; subst c5; subst c4; subst c8; subst c9; subst c10; subst c7
    rw [bytesL_ofBytes]
    have hn : l.length < 1000000 := by rw [c2]; simpa [Nat.blt_eq] using c6
    subst c2
    refine xorLoop (b := roundOf (blockOf Try.f9 5)) (fun l' i => tIn.st ([.fsl a lb2 b, .ptr (some (0, 0)), .int .i64 at_, .slice (some (1, 0)) m none, .fsl a1 l1 ns, .int .i64 l2, .int .i64 i2, .slice (some (2, 0)) l.length none, .int .i64 (Int.ofNat l.length), .int .i64 (Int.ofNat i)], [.cells true 116 3 [.slice (some (3, 0)) lb2 none, .int .i64 at2, .slice (some (4, 0)) m2 none], .cells true 62 (m * 3) ws, .cells true 5 l.length (ofBytes l'), .cells true 5 lb2 ds, .cells true 62 (m2 * 3) ts])) (.exit 5) l.length (by simp) (fun l' i hl hi => ?_) (fun l' hl => ?_) l rfl
    · have hlt : iltB (Int.ofNat i) (Int.ofNat l.length) = true := by rw [iltB_eq]; exact decide_eq_true (by show (i : Int) < (l.length : Int); omega)
      have z0 : 0 + (Int.ofNat i).toNat * 1 = i := by show 0 + i * 1 = i; omega
      have hA : AV.isInt IntKind.u8 ((listAt (ofBytes l') (0 + (Int.ofNat i).toNat * 1)).getD AV.undef) = true := by
        rw [z0, listAt_ofBytes l' i (by omega)]; rfl
      have key := tin_r a lb2 b at_ m a1 l1 ns l2 i2 l.length l.length i at2 m2 ws (ofBytes l') ds ts hlt (ble_of (by show i + 1 ≤ _; omega)) (ble_of (by rw [z0]; omega)) (ble_of (by rw [z0, ofBytes_length]; omega)) hA (ble_of (by rw [z0]; omega)) p1 p2 p4 (by rw [turn_byte l' i (by omega)]; exact ofBytes_plainL _) p3 p5
      have hw : wrapA .i64 ((Int.ofNat i).add (Int.ofNat 1)) = Int.ofNat (i + 1) := wrapA_nat .i64 (i + 1) (by show _ < 9223372036854775808; omega)
      rw [turn_byte l' i (by omega), hw] at key
      exact key
    · have hlt : iltB (Int.ofNat l.length) (Int.ofNat l.length) = false := by rw [iltB_eq]; exact decide_eq_false (by show ¬ (l.length : Int) < (l.length : Int); omega)
      exact tin_e a lb2 b at_ m a1 l1 ns l2 i2 l.length l.length l.length at2 m2 ws (ofBytes l') ds ts hlt p1 p2 p4 (ofBytes_plainL _) p3 p5
  · cases h
end Go.Proofs.Ytecncappdnhbaaa
end
end

/- TapeTakes: what is known in its great loop. -/
section
set_option autoImplicit false
set_option linter.unusedVariables false
set_option linter.unusedSimpArgs false
set_option maxRecDepth 100000
noncomputable section
namespace Go.Proofs.Ytecncappdnhbaaa
open Go.Ab.M Go.Ab Go
def K8c : Known := { t := [(67, cloneR.rt), (20, (RSum.const (.bool true)).rt)], l := [((9, 5), tIn.lt)] }
theorem K8c_ok : KOK Try.prog tys K8c := ⟨⟨RSum.rt_sound cloneR_ok, RSum.rt_sound lives12t_ok, trivial⟩, trivial, trivial, trivial, ⟨ZLoop.lt_ok tIn_ok, trivial⟩⟩
abbrev C8c := mkCxZ tys fns K8c
theorem all8c : SumAll Try.prog C8c := sums_allZ K8c_ok
end Go.Proofs.Ytecncappdnhbaaa
end
end

/- TapeTakes: its great loop. -/
section
set_option autoImplicit false
set_option linter.unusedVariables false
set_option linter.unusedSimpArgs false
set_option maxRecDepth 100000
noncomputable section
namespace Go.Ab
namespace M
def encZ (l : List Int) : List AV := l.map (AV.int .i64)
def isZ (cs : List AV) : Bool := cs.all (AV.isInt .i64)
def intsZ (cs : List AV) : List Int := cs.map AV.intOf
def noteT (i : Nat) : List UInt8 := [UInt8.ofNat (wrapA IntKind.u8 ((Int.ofNat 97).add (wrapA IntKind.u8 ((Int.ofNat i).tmod (Int.ofNat 26))))).toNat]
/-- one take. -/
def tk1 (lb i : Nat) (n : Int) (s : Nat × List TK) : Nat × List TK := if 0 ≤ n ∧ n ≤ ((lb - s.1 : Nat) : Int) then (s.1 + n.toNat, s.2 ++ [(noteT i, Int.ofNat s.1, n)]) else s
def tkR (lb : Nat) : Nat → List Int → Nat × List TK → Nat × List TK
  | _, [], s => s
  | i, n :: l, s => tkR lb (i + 1) l (tk1 lb i n s)
def takesT (lb : Nat) (zs : List Int) : List TK := (tkR lb 0 zs (0, [])).2
def atT (lb : Nat) (zs : List Int) : Nat := (tkR lb 0 zs (0, [])).1
def noT (lb : Nat) (zs : List Int) : Bool := (takesT lb zs).isEmpty
end M
open M
theorem isZ_iff {cs : List AV} : isZ cs = true ↔ ∃ l, cs = encZ l := by
  constructor
  · intro h
    refine ⟨intsZ cs, ?_⟩
    unfold intsZ encZ
    rw [List.map_map]
    conv => lhs; rw [← List.map_id cs]
    refine List.map_congr_left fun v hv => ?_
    have := List.all_eq_true.1 h v hv
    cases v <;> simp [AV.isInt] at this
    subst this; rfl
  · rintro ⟨l, rfl⟩
    unfold isZ encZ
    rw [List.all_map]
    exact List.all_eq_true.2 fun x _ => rfl
theorem intsZ_encZ (l : List Int) : intsZ (encZ l) = l := by
  unfold intsZ encZ
  rw [List.map_map]
  conv => rhs; rw [← List.map_id l]
  exact List.map_congr_left fun x _ => rfl
theorem encZ_length (l : List Int) : (encZ l).length = l.length := by unfold encZ; rw [List.length_map]
theorem encZ_plainL (l : List Int) : AV.plainL (encZ l) = true := by
  induction l with
  | nil => rfl
  | cons x l ih => exact ih
theorem encZ_at (l : List Int) (i : Nat) (n : Int) (h : l[i]? = some n) : (listAt (List.drop ((Int.ofNat i).toNat * 1) (encZ l)) 0).getD AV.undef = .int .i64 n := by
  have e : (Int.ofNat i).toNat * 1 = i := Nat.mul_one i
  rw [e, listAt_eq, List.getElem?_drop]
  unfold encZ
  rw [List.getElem?_map, Nat.add_zero, h]; rfl
theorem bytesEq_refl (b : List UInt8) : bytesEq b b = true := by rw [bytesEq_eq]; exact beq_self_eq_true b
end Go.Ab
namespace Go.Proofs.Ytecncappdnhbaaa
open Go.Ab.M Go.Ab Go
theorem tt_eA (a : Bool) (lb : Nat) (b : List AV) (at_ : Nat) (a1 : Bool) (l1 : Nat) (ns : List AV) (i : Nat) (bs : List AV) (h0 : (iltB (Int.ofNat i) (Int.ofNat l1)) = false) (h1 : (AV.plainL b) = true) (h2 : (AV.plainL ns) = true) (h3 : (AV.plainL bs) = true) :
    CodeOK Try.prog (tyCx tys) 194 2 (roundOf (blockOf Try.f9 2)) { fr := frameOf 194 ([0, 6, 9, 10, 57, 58, 59].zip [AV.fsl a lb b, AV.ptr (some (0, 0)), AV.int IntKind.i64 (Int.ofNat at_), AV.slice none 0 (some 0), AV.fsl a1 l1 ns, AV.int IntKind.i64 (Int.ofNat l1), AV.int IntKind.i64 (Int.ofNat i)]), ds := upTo 0, H := mkL [Blk.cells true 116 3 [AV.slice (some (1, 0)) lb none, AV.int IntKind.i64 (Int.ofNat at_), AV.slice none 0 (some 0)], Blk.cells true 5 lb bs] } (AX.exit 2) ⟨frameOf 194 ([0, 6, 9, 10, 57, 58, 59].zip [AV.fsl a lb b, AV.ptr (some (0, 0)), AV.int IntKind.i64 (Int.ofNat at_), AV.slice none 0 (some 0), AV.fsl a1 l1 ns, AV.int IntKind.i64 (Int.ofNat l1), AV.int IntKind.i64 (Int.ofNat i)]), upTo 0, mkL [Blk.cells true 116 3 [AV.slice (some (1, 0)) lb none, AV.int IntKind.i64 (Int.ofNat at_), AV.slice none 0 (some 0)], Blk.cells true 5 lb bs]⟩ :=
  zrows_run (g := 30) (k := 9) (f := 30) (sl := [0, 6, 9, 10, 57, 58, 59]) (ks := [0, 1]) (rs := []) (ds := []) (cxZ cx_goes) all8c (q := (.z :: [])) (c := (Cnd.tst _ false :: [])) (cq := [AV.plainL b, true, AV.plainL ns, true, true, true, AV.plainL bs]) (by kernel_rfl) ⟨h0, trivial⟩ (holdsB ⟨h1, rfl, h2, rfl, rfl, rfl, h3, trivial⟩) (by kernel_rfl) (by kernel_rfl) (by kernel_rfl) (by kernel_rfl) (by kernel_rfl)
theorem tt_eB (a : Bool) (lb : Nat) (b : List AV) (at_ : Nat) (a1 : Bool) (l1 : Nat) (ns : List AV) (i : Nat) (bs : List AV) (m : Nat) (ws : List AV) (ts : List AV) (h0 : (iltB (Int.ofNat i) (Int.ofNat l1)) = false) (h1 : (AV.plainL b) = true) (h2 : (AV.plainL ns) = true) (h3 : (AV.plainL bs) = true) (h4 : (AV.plainL ws) = true) (h5 : (AV.plainL ts) = true) :
    CodeOK Try.prog (tyCx tys) 194 2 (roundOf (blockOf Try.f9 2)) { fr := frameOf 194 ([0, 6, 9, 10, 57, 58, 59].zip [AV.fsl a lb b, AV.ptr (some (0, 0)), AV.int IntKind.i64 (Int.ofNat at_), AV.slice (some (2, 0)) m none, AV.fsl a1 l1 ns, AV.int IntKind.i64 (Int.ofNat l1), AV.int IntKind.i64 (Int.ofNat i)]), ds := upTo 0, H := mkL [Blk.cells true 116 3 [AV.slice (some (1, 0)) lb none, AV.int IntKind.i64 (Int.ofNat at_), AV.slice (some (3, 0)) m none], Blk.cells true 5 lb bs, Blk.cells true 62 (m * 3) ws, Blk.cells true 62 (m * 3) ts] } (AX.exit 2) ⟨frameOf 194 ([0, 6, 9, 10, 57, 58, 59].zip [AV.fsl a lb b, AV.ptr (some (0, 0)), AV.int IntKind.i64 (Int.ofNat at_), AV.slice (some (2, 0)) m none, AV.fsl a1 l1 ns, AV.int IntKind.i64 (Int.ofNat l1), AV.int IntKind.i64 (Int.ofNat i)]), upTo 0, mkL [Blk.cells true 116 3 [AV.slice (some (1, 0)) lb none, AV.int IntKind.i64 (Int.ofNat at_), AV.slice (some (3, 0)) m none], Blk.cells true 5 lb bs, Blk.cells true 62 (m * 3) ws, Blk.cells true 62 (m * 3) ts]⟩ :=
  zrows_run (g := 30) (k := 9) (f := 30) (sl := [0, 6, 9, 10, 57, 58, 59]) (ks := [0, 1, 2, 3]) (rs := []) (ds := []) (cxZ cx_goes) all8c (q := (.z :: [])) (c := (Cnd.tst _ false :: [])) (cq := [AV.plainL b, true, true, AV.plainL ns, true, true, true, true, AV.plainL bs, true, AV.plainL ws, true, AV.plainL ts]) (by kernel_rfl) ⟨h0, trivial⟩ (holdsB ⟨h1, rfl, rfl, h2, rfl, rfl, rfl, rfl, h3, rfl, h4, rfl, h5, trivial⟩) (by kernel_rfl) (by kernel_rfl) (by kernel_rfl) (by kernel_rfl) (by kernel_rfl)
theorem tt_negA (a : Bool) (lb : Nat) (b : List AV) (at_ : Nat) (a1 : Bool) (l1 : Nat) (ns : List AV) (i : Nat) (bs : List AV) (h0 : (iltB (Int.ofNat i) (Int.ofNat l1)) = true) (h1 : ((Int.ofNat i).toNat.succ.ble l1) = true) (h2 : (ns.length.beq (l1.mul 1)) = true) (h3 : (Nat.ble 1 (List.drop ((Int.ofNat i).toNat * 1) ns).length) = true) (h4 : (AV.isInt IntKind.i64 ((listAt (List.drop ((Int.ofNat i).toNat * 1) ns) 0).getD AV.undef)) = true) (h5 : (iltB ((listAt (List.drop ((Int.ofNat i).toNat * 1) ns) 0).getD AV.undef).intOf (Int.ofNat 0)) = true) (h6 : (!ieqB (AV.int IntKind.i64 (Int.ofNat at_)).intOf (Int.ofNat at_)) = false) (h7 : (!ieqB (wrapA IntKind.i64 ((Int.ofNat lb).sub (AV.int IntKind.i64 (Int.ofNat at_)).intOf)) (wrapA IntKind.i64 ((Int.ofNat lb).sub (Int.ofNat at_)))) = false) (h8 : (AV.plainL b) = true) (h9 : (AV.plainL ns) = true) (h10 : (AV.plainL bs) = true) :
    CodeOK Try.prog (tyCx tys) 194 2 (roundOf (blockOf Try.f9 2)) { fr := frameOf 194 ([0, 6, 9, 10, 57, 58, 59].zip [AV.fsl a lb b, AV.ptr (some (0, 0)), AV.int IntKind.i64 (Int.ofNat at_), AV.slice none 0 (some 0), AV.fsl a1 l1 ns, AV.int IntKind.i64 (Int.ofNat l1), AV.int IntKind.i64 (Int.ofNat i)]), ds := upTo 0, H := mkL [Blk.cells true 116 3 [AV.slice (some (1, 0)) lb none, AV.int IntKind.i64 (Int.ofNat at_), AV.slice none 0 (some 0)], Blk.cells true 5 lb bs] } (AX.normal) ⟨frameOf 194 ([0, 6, 9, 10, 57, 58, 59].zip [AV.fsl a lb b, AV.ptr (some (0, 0)), AV.int IntKind.i64 (Int.ofNat at_), AV.slice none 0 (some 0), AV.fsl a1 l1 ns, AV.int IntKind.i64 (Int.ofNat l1), AV.int IntKind.i64 (wrapA IntKind.i64 ((Int.ofNat i).add (Int.ofNat 1)))]), upTo 0, mkL [Blk.cells true 116 3 [AV.slice (some (1, 0)) lb none, AV.int IntKind.i64 (Int.ofNat at_), AV.slice none 0 (some 0)], Blk.cells true 5 lb bs]⟩ :=
  zrows_run (g := 30) (k := 9) (f := 30) (sl := [0, 6, 9, 10, 57, 58, 59]) (ks := [0, 1]) (rs := []) (ds := []) (cxZ cx_goes) all8c (q := (.y :: (oc 1 (.y :: (.y :: (.y :: (.y :: (oc 7 (.y :: (.y :: (oc 9 (.z :: (.z :: (oc 7 (.z :: (.z :: (.z :: (.z :: (.z :: (.z :: (.z :: []))))))))))))))))))))) (c := (Cnd.tst _ true :: Cnd.tst _ true :: Cnd.tst _ true :: Cnd.tst _ true :: Cnd.tst _ true :: Cnd.tst _ true :: Cnd.tst _ true :: Cnd.tst _ false :: Cnd.tst _ false :: Cnd.tst _ false :: Cnd.tst _ false :: Cnd.tst _ false :: Cnd.tst _ false :: Cnd.tst _ false :: Cnd.tst _ false :: Cnd.tst _ false :: [])) (cq := [AV.plainL b, true, AV.plainL ns, true, true, true, AV.plainL bs]) (by kernel_rfl) ⟨h0, h1, h2, h3, h4, h5, h5, h6, h6, h6, h6, h6, h6, h6, h6, h7, trivial⟩ (holdsB ⟨h8, rfl, h9, rfl, rfl, rfl, h10, trivial⟩) (by kernel_rfl) (by kernel_rfl) (by kernel_rfl) (by kernel_rfl) (by kernel_rfl)
theorem tt_bigA (a : Bool) (lb : Nat) (b : List AV) (at_ : Nat) (a1 : Bool) (l1 : Nat) (ns : List AV) (i : Nat) (bs : List AV) (h0 : (iltB (Int.ofNat i) (Int.ofNat l1)) = true) (h1 : ((Int.ofNat i).toNat.succ.ble l1) = true) (h2 : (ns.length.beq (l1.mul 1)) = true) (h3 : (Nat.ble 1 (List.drop ((Int.ofNat i).toNat * 1) ns).length) = true) (h4 : (AV.isInt IntKind.i64 ((listAt (List.drop ((Int.ofNat i).toNat * 1) ns) 0).getD AV.undef)) = true) (h5 : (iltB ((listAt (List.drop ((Int.ofNat i).toNat * 1) ns) 0).getD AV.undef).intOf (Int.ofNat 0)) = false) (h6 : (iltB (wrapA IntKind.i64 ((Int.ofNat lb).sub (AV.int IntKind.i64 (Int.ofNat at_)).intOf)) ((listAt (List.drop ((Int.ofNat i).toNat * 1) ns) 0).getD AV.undef).intOf) = true) (h7 : (iltB (wrapA IntKind.i64 ((Int.ofNat lb).sub (Int.ofNat at_))) ((listAt (List.drop ((Int.ofNat i).toNat * 1) ns) 0).getD AV.undef).intOf) = true) (h8 : (!ieqB (AV.int IntKind.i64 (Int.ofNat at_)).intOf (Int.ofNat at_)) = false) (h9 : (!ieqB (wrapA IntKind.i64 ((Int.ofNat lb).sub (AV.int IntKind.i64 (Int.ofNat at_)).intOf)) (wrapA IntKind.i64 ((Int.ofNat lb).sub (Int.ofNat at_)))) = false) (h10 : (AV.plainL b) = true) (h11 : (AV.plainL ns) = true) (h12 : (AV.plainL bs) = true) :
    CodeOK Try.prog (tyCx tys) 194 2 (roundOf (blockOf Try.f9 2)) { fr := frameOf 194 ([0, 6, 9, 10, 57, 58, 59].zip [AV.fsl a lb b, AV.ptr (some (0, 0)), AV.int IntKind.i64 (Int.ofNat at_), AV.slice none 0 (some 0), AV.fsl a1 l1 ns, AV.int IntKind.i64 (Int.ofNat l1), AV.int IntKind.i64 (Int.ofNat i)]), ds := upTo 0, H := mkL [Blk.cells true 116 3 [AV.slice (some (1, 0)) lb none, AV.int IntKind.i64 (Int.ofNat at_), AV.slice none 0 (some 0)], Blk.cells true 5 lb bs] } (AX.normal) ⟨frameOf 194 ([0, 6, 9, 10, 57, 58, 59].zip [AV.fsl a lb b, AV.ptr (some (0, 0)), AV.int IntKind.i64 (Int.ofNat at_), AV.slice none 0 (some 0), AV.fsl a1 l1 ns, AV.int IntKind.i64 (Int.ofNat l1), AV.int IntKind.i64 (wrapA IntKind.i64 ((Int.ofNat i).add (Int.ofNat 1)))]), upTo 0, mkL [Blk.cells true 116 3 [AV.slice (some (1, 0)) lb none, AV.int IntKind.i64 (Int.ofNat at_), AV.slice none 0 (some 0)], Blk.cells true 5 lb bs]⟩ :=
  zrows_run (g := 30) (k := 9) (f := 30) (sl := [0, 6, 9, 10, 57, 58, 59]) (ks := [0, 1]) (rs := []) (ds := []) (cxZ cx_goes) all8c (q := (.y :: (oc 1 (.y :: (.y :: (.y :: (.y :: (oc 7 (.z :: (oc 7 (.y :: (.z :: (.y :: (oc 9 (.z :: (.z :: (oc 7 (.z :: (.z :: (.z :: (.z :: (.z :: (.z :: (.z :: [])))))))))))))))))))))))) (c := (Cnd.tst _ true :: Cnd.tst _ true :: Cnd.tst _ true :: Cnd.tst _ true :: Cnd.tst _ true :: Cnd.tst _ false :: Cnd.tst _ true :: Cnd.tst _ false :: Cnd.tst _ true :: Cnd.tst _ false :: Cnd.tst _ false :: Cnd.tst _ false :: Cnd.tst _ false :: Cnd.tst _ false :: Cnd.tst _ false :: Cnd.tst _ false :: Cnd.tst _ false :: Cnd.tst _ false :: [])) (cq := [AV.plainL b, true, AV.plainL ns, true, true, true, AV.plainL bs]) (by kernel_rfl) ⟨h0, h1, h2, h3, h4, h5, h6, h5, h7, h8, h8, h8, h8, h8, h8, h8, h8, h9, trivial⟩ (holdsB ⟨h10, rfl, h11, rfl, rfl, rfl, h12, trivial⟩) (by kernel_rfl) (by kernel_rfl) (by kernel_rfl) (by kernel_rfl) (by kernel_rfl)
theorem tt_negB (a : Bool) (lb : Nat) (b : List AV) (at_ : Nat) (a1 : Bool) (l1 : Nat) (ns : List AV) (i : Nat) (bs : List AV) (m : Nat) (ws : List AV) (ts : List AV) (h0 : (iltB (Int.ofNat i) (Int.ofNat l1)) = true) (h1 : ((Int.ofNat i).toNat.succ.ble l1) = true) (h2 : (ns.length.beq (l1.mul 1)) = true) (h3 : (Nat.ble 1 (List.drop ((Int.ofNat i).toNat * 1) ns).length) = true) (h4 : (AV.isInt IntKind.i64 ((listAt (List.drop ((Int.ofNat i).toNat * 1) ns) 0).getD AV.undef)) = true) (h5 : (iltB ((listAt (List.drop ((Int.ofNat i).toNat * 1) ns) 0).getD AV.undef).intOf (Int.ofNat 0)) = true) (h6 : (!ieqB (AV.int IntKind.i64 (Int.ofNat at_)).intOf (Int.ofNat at_)) = false) (h7 : (!ieqB (wrapA IntKind.i64 ((Int.ofNat lb).sub (AV.int IntKind.i64 (Int.ofNat at_)).intOf)) (wrapA IntKind.i64 ((Int.ofNat lb).sub (Int.ofNat at_)))) = false) (h8 : (AV.plainL b) = true) (h9 : (AV.plainL ns) = true) (h10 : (AV.plainL bs) = true) (h11 : (AV.plainL ws) = true) (h12 : (AV.plainL ts) = true) :
    CodeOK Try.prog (tyCx tys) 194 2 (roundOf (blockOf Try.f9 2)) { fr := frameOf 194 ([0, 6, 9, 10, 57, 58, 59].zip [AV.fsl a lb b, AV.ptr (some (0, 0)), AV.int IntKind.i64 (Int.ofNat at_), AV.slice (some (2, 0)) m none, AV.fsl a1 l1 ns, AV.int IntKind.i64 (Int.ofNat l1), AV.int IntKind.i64 (Int.ofNat i)]), ds := upTo 0, H := mkL [Blk.cells true 116 3 [AV.slice (some (1, 0)) lb none, AV.int IntKind.i64 (Int.ofNat at_), AV.slice (some (3, 0)) m none], Blk.cells true 5 lb bs, Blk.cells true 62 (m * 3) ws, Blk.cells true 62 (m * 3) ts] } (AX.normal) ⟨frameOf 194 ([0, 6, 9, 10, 57, 58, 59].zip [AV.fsl a lb b, AV.ptr (some (0, 0)), AV.int IntKind.i64 (Int.ofNat at_), AV.slice (some (2, 0)) m none, AV.fsl a1 l1 ns, AV.int IntKind.i64 (Int.ofNat l1), AV.int IntKind.i64 (wrapA IntKind.i64 ((Int.ofNat i).add (Int.ofNat 1)))]), upTo 0, mkL [Blk.cells true 116 3 [AV.slice (some (1, 0)) lb none, AV.int IntKind.i64 (Int.ofNat at_), AV.slice (some (3, 0)) m none], Blk.cells true 5 lb bs, Blk.cells true 62 (m * 3) ws, Blk.cells true 62 (m * 3) ts]⟩ :=
  zrows_run (g := 30) (k := 9) (f := 30) (sl := [0, 6, 9, 10, 57, 58, 59]) (ks := [0, 1, 2, 3]) (rs := []) (ds := []) (cxZ cx_goes) all8c (q := (.y :: (oc 1 (.y :: (.y :: (.y :: (.y :: (oc 7 (.y :: (.y :: (oc 9 (.z :: (.z :: (oc 7 (.z :: (.z :: (.z :: (.z :: (.z :: (.z :: (.z :: []))))))))))))))))))))) (c := (Cnd.tst _ true :: Cnd.tst _ true :: Cnd.tst _ true :: Cnd.tst _ true :: Cnd.tst _ true :: Cnd.tst _ true :: Cnd.tst _ true :: Cnd.tst _ false :: Cnd.tst _ false :: Cnd.tst _ false :: Cnd.tst _ false :: Cnd.tst _ false :: Cnd.tst _ false :: Cnd.tst _ false :: Cnd.tst _ false :: Cnd.tst _ false :: [])) (cq := [AV.plainL b, true, true, AV.plainL ns, true, true, true, true, AV.plainL bs, true, AV.plainL ws, true, AV.plainL ts]) (by kernel_rfl) ⟨h0, h1, h2, h3, h4, h5, h5, h6, h6, h6, h6, h6, h6, h6, h6, h7, trivial⟩ (holdsB ⟨h8, rfl, rfl, h9, rfl, rfl, rfl, rfl, h10, rfl, h11, rfl, h12, trivial⟩) (by kernel_rfl) (by kernel_rfl) (by kernel_rfl) (by kernel_rfl) (by kernel_rfl)
theorem tt_bigB (a : Bool) (lb : Nat) (b : List AV) (at_ : Nat) (a1 : Bool) (l1 : Nat) (ns : List AV) (i : Nat) (bs : List AV) (m : Nat) (ws : List AV) (ts : List AV) (h0 : (iltB (Int.ofNat i) (Int.ofNat l1)) = true) (h1 : ((Int.ofNat i).toNat.succ.ble l1) = true) (h2 : (ns.length.beq (l1.mul 1)) = true) (h3 : (Nat.ble 1 (List.drop ((Int.ofNat i).toNat * 1) ns).length) = true) (h4 : (AV.isInt IntKind.i64 ((listAt (List.drop ((Int.ofNat i).toNat * 1) ns) 0).getD AV.undef)) = true) (h5 : (iltB ((listAt (List.drop ((Int.ofNat i).toNat * 1) ns) 0).getD AV.undef).intOf (Int.ofNat 0)) = false) (h6 : (iltB (wrapA IntKind.i64 ((Int.ofNat lb).sub (AV.int IntKind.i64 (Int.ofNat at_)).intOf)) ((listAt (List.drop ((Int.ofNat i).toNat * 1) ns) 0).getD AV.undef).intOf) = true) (h7 : (iltB (wrapA IntKind.i64 ((Int.ofNat lb).sub (Int.ofNat at_))) ((listAt (List.drop ((Int.ofNat i).toNat * 1) ns) 0).getD AV.undef).intOf) = true) (h8 : (!ieqB (AV.int IntKind.i64 (Int.ofNat at_)).intOf (Int.ofNat at_)) = false) (h9 : (!ieqB (wrapA IntKind.i64 ((Int.ofNat lb).sub (AV.int IntKind.i64 (Int.ofNat at_)).intOf)) (wrapA IntKind.i64 ((Int.ofNat lb).sub (Int.ofNat at_)))) = false) (h10 : (AV.plainL b) = true) (h11 : (AV.plainL ns) = true) (h12 : (AV.plainL bs) = true) (h13 : (AV.plainL ws) = true) (h14 : (AV.plainL ts) = true) :
    CodeOK Try.prog (tyCx tys) 194 2 (roundOf (blockOf Try.f9 2)) { fr := frameOf 194 ([0, 6, 9, 10, 57, 58, 59].zip [AV.fsl a lb b, AV.ptr (some (0, 0)), AV.int IntKind.i64 (Int.ofNat at_), AV.slice (some (2, 0)) m none, AV.fsl a1 l1 ns, AV.int IntKind.i64 (Int.ofNat l1), AV.int IntKind.i64 (Int.ofNat i)]), ds := upTo 0, H := mkL [Blk.cells true 116 3 [AV.slice (some (1, 0)) lb none, AV.int IntKind.i64 (Int.ofNat at_), AV.slice (some (3, 0)) m none], Blk.cells true 5 lb bs, Blk.cells true 62 (m * 3) ws, Blk.cells true 62 (m * 3) ts] } (AX.normal) ⟨frameOf 194 ([0, 6, 9, 10, 57, 58, 59].zip [AV.fsl a lb b, AV.ptr (some (0, 0)), AV.int IntKind.i64 (Int.ofNat at_), AV.slice (some (2, 0)) m none, AV.fsl a1 l1 ns, AV.int IntKind.i64 (Int.ofNat l1), AV.int IntKind.i64 (wrapA IntKind.i64 ((Int.ofNat i).add (Int.ofNat 1)))]), upTo 0, mkL [Blk.cells true 116 3 [AV.slice (some (1, 0)) lb none, AV.int IntKind.i64 (Int.ofNat at_), AV.slice (some (3, 0)) m none], Blk.cells true 5 lb bs, Blk.cells true 62 (m * 3) ws, Blk.cells true 62 (m * 3) ts]⟩ :=
  zrows_run (g := 30) (k := 9) (f := 30) (sl := [0, 6, 9, 10, 57, 58, 59]) (ks := [0, 1, 2, 3]) (rs := []) (ds := []) (cxZ cx_goes) all8c (q := (.y :: (oc 1 (.y :: (.y :: (.y :: (.y :: (oc 7 (.z :: (oc 7 (.y :: (.z :: (.y :: (oc 9 (.z :: (.z :: (oc 7 (.z :: (.z :: (.z :: (.z :: (.z :: (.z :: (.z :: [])))))))))))))))))))))))) (c := (Cnd.tst _ true :: Cnd.tst _ true :: Cnd.tst _ true :: Cnd.tst _ true :: Cnd.tst _ true :: Cnd.tst _ false :: Cnd.tst _ true :: Cnd.tst _ false :: Cnd.tst _ true :: Cnd.tst _ false :: Cnd.tst _ false :: Cnd.tst _ false :: Cnd.tst _ false :: Cnd.tst _ false :: Cnd.tst _ false :: Cnd.tst _ false :: Cnd.tst _ false :: Cnd.tst _ false :: [])) (cq := [AV.plainL b, true, true, AV.plainL ns, true, true, true, true, AV.plainL bs, true, AV.plainL ws, true, AV.plainL ts]) (by kernel_rfl) ⟨h0, h1, h2, h3, h4, h5, h6, h5, h7, h8, h8, h8, h8, h8, h8, h8, h8, h9, trivial⟩ (holdsB ⟨h10, rfl, rfl, h11, rfl, rfl, rfl, rfl, h12, rfl, h13, rfl, h14, trivial⟩) (by kernel_rfl) (by kernel_rfl) (by kernel_rfl) (by kernel_rfl) (by kernel_rfl)
theorem tt_okA (a : Bool) (lb : Nat) (b : List AV) (at_ : Nat) (a1 : Bool) (l1 : Nat) (ns : List AV) (i : Nat) (bs : List AV) (h0 : (iltB (Int.ofNat i) (Int.ofNat l1)) = true) (h1 : ((Int.ofNat i).toNat.succ.ble l1) = true) (h2 : (ns.length.beq (l1.mul 1)) = true) (h3 : (Nat.ble 1 (List.drop ((Int.ofNat i).toNat * 1) ns).length) = true) (h4 : (AV.isInt IntKind.i64 ((listAt (List.drop ((Int.ofNat i).toNat * 1) ns) 0).getD AV.undef)) = true) (h5 : (iltB ((listAt (List.drop ((Int.ofNat i).toNat * 1) ns) 0).getD AV.undef).intOf (Int.ofNat 0)) = false) (h6 : (iltB (wrapA IntKind.i64 ((Int.ofNat lb).sub (AV.int IntKind.i64 (Int.ofNat at_)).intOf)) ((listAt (List.drop ((Int.ofNat i).toNat * 1) ns) 0).getD AV.undef).intOf) = false) (h7 : (ileB (Int.ofNat 0) (wrapA IntKind.i64 ((AV.int IntKind.i64 (Int.ofNat at_)).intOf.add ((listAt (List.drop ((Int.ofNat i).toNat * 1) ns) 0).getD AV.undef).intOf))) = true) (h8 : ((wrapA IntKind.i64 ((AV.int IntKind.i64 (Int.ofNat at_)).intOf.add ((listAt (List.drop ((Int.ofNat i).toNat * 1) ns) 0).getD AV.undef).intOf)).toNat.ble lb) = true) (h9 : ((AV.int IntKind.i64 (Int.ofNat at_)).intOf.toNat.ble (wrapA IntKind.i64 ((AV.int IntKind.i64 (Int.ofNat at_)).intOf.add ((listAt (List.drop ((Int.ofNat i).toNat * 1) ns) 0).getD AV.undef).intOf)).toNat) = true) (h10 : ((0 + (AV.int IntKind.i64 (Int.ofNat at_)).intOf.toNat * 1 + ((wrapA IntKind.i64 ((AV.int IntKind.i64 (Int.ofNat at_)).intOf.add ((listAt (List.drop ((Int.ofNat i).toNat * 1) ns) 0).getD AV.undef).intOf)).toNat - (AV.int IntKind.i64 (Int.ofNat at_)).intOf.toNat) * 1).ble lb) = true) (h11 : (AV.plainL bs) = true) (h12 : ((rowCut bs (0 + (AV.int IntKind.i64 (Int.ofNat at_)).intOf.toNat * 1) (((wrapA IntKind.i64 ((AV.int IntKind.i64 (Int.ofNat at_)).intOf.add ((listAt (List.drop ((Int.ofNat i).toNat * 1) ns) 0).getD AV.undef).intOf)).toNat - (AV.int IntKind.i64 (Int.ofNat at_)).intOf.toNat) * 1)).length.beq ((wrapA IntKind.i64 ((AV.int IntKind.i64 (Int.ofNat at_)).intOf.add ((listAt (List.drop ((Int.ofNat i).toNat * 1) ns) 0).getD AV.undef).intOf)).toNat - (AV.int IntKind.i64 (Int.ofNat at_)).intOf.toNat)) = true) (h13 : (u8L (rowCut bs (0 + (AV.int IntKind.i64 (Int.ofNat at_)).intOf.toNat * 1) (((wrapA IntKind.i64 ((AV.int IntKind.i64 (Int.ofNat at_)).intOf.add ((listAt (List.drop ((Int.ofNat i).toNat * 1) ns) 0).getD AV.undef).intOf)).toNat - (AV.int IntKind.i64 (Int.ofNat at_)).intOf.toNat) * 1))) = true) (h14 : (((wrapA IntKind.i64 ((AV.int IntKind.i64 (Int.ofNat at_)).intOf.add ((listAt (List.drop ((Int.ofNat i).toNat * 1) ns) 0).getD AV.undef).intOf)).toNat - (AV.int IntKind.i64 (Int.ofNat at_)).intOf.toNat).ble 1099511627776) = true) (h15 : (iltB (wrapA IntKind.i64 ((Int.ofNat lb).sub (Int.ofNat at_))) ((listAt (List.drop ((Int.ofNat i).toNat * 1) ns) 0).getD AV.undef).intOf) = false) (h16 : ((0 + ((wrapA IntKind.i64 ((AV.int IntKind.i64 (Int.ofNat at_)).intOf.add ((listAt (List.drop ((Int.ofNat i).toNat * 1) ns) 0).getD AV.undef).intOf)).toNat - (AV.int IntKind.i64 (Int.ofNat at_)).intOf.toNat)).ble ((wrapA IntKind.i64 ((AV.int IntKind.i64 (Int.ofNat at_)).intOf.add ((listAt (List.drop ((Int.ofNat i).toNat * 1) ns) 0).getD AV.undef).intOf)).toNat - (AV.int IntKind.i64 (Int.ofNat at_)).intOf.toNat)) = true) (h17 : ((bytesOf (rowCut (rowCut bs (0 + (AV.int IntKind.i64 (Int.ofNat at_)).intOf.toNat * 1) (((wrapA IntKind.i64 ((AV.int IntKind.i64 (Int.ofNat at_)).intOf.add ((listAt (List.drop ((Int.ofNat i).toNat * 1) ns) 0).getD AV.undef).intOf)).toNat - (AV.int IntKind.i64 (Int.ofNat at_)).intOf.toNat) * 1)) 0 ((wrapA IntKind.i64 ((AV.int IntKind.i64 (Int.ofNat at_)).intOf.add ((listAt (List.drop ((Int.ofNat i).toNat * 1) ns) 0).getD AV.undef).intOf)).toNat - (AV.int IntKind.i64 (Int.ofNat at_)).intOf.toNat))).isSome) = true) (h18 : (b.length.beq (lb.mul 1)) = true) (h19 : (ileB (Int.ofNat 0) (wrapA IntKind.i64 ((Int.ofNat at_).add ((listAt (List.drop ((Int.ofNat i).toNat * 1) ns) 0).getD AV.undef).intOf))) = true) (h20 : ((wrapA IntKind.i64 ((Int.ofNat at_).add ((listAt (List.drop ((Int.ofNat i).toNat * 1) ns) 0).getD AV.undef).intOf)).toNat.ble lb) = true) (h21 : ((Int.ofNat at_).toNat.ble (wrapA IntKind.i64 ((Int.ofNat at_).add ((listAt (List.drop ((Int.ofNat i).toNat * 1) ns) 0).getD AV.undef).intOf)).toNat) = true) (h22 : ((rowCut b ((Int.ofNat at_).toNat * 1) (((wrapA IntKind.i64 ((Int.ofNat at_).add ((listAt (List.drop ((Int.ofNat i).toNat * 1) ns) 0).getD AV.undef).intOf)).toNat - (Int.ofNat at_).toNat) * 1)).length.beq ((wrapA IntKind.i64 ((Int.ofNat at_).add ((listAt (List.drop ((Int.ofNat i).toNat * 1) ns) 0).getD AV.undef).intOf)).toNat - (Int.ofNat at_).toNat)) = true) (h23 : ((bytesOf (rowCut b ((Int.ofNat at_).toNat * 1) (((wrapA IntKind.i64 ((Int.ofNat at_).add ((listAt (List.drop ((Int.ofNat i).toNat * 1) ns) 0).getD AV.undef).intOf)).toNat - (Int.ofNat at_).toNat) * 1))).isSome) = true) (h24 : (!bytesEq ((bytesOf (rowCut (rowCut bs (0 + (AV.int IntKind.i64 (Int.ofNat at_)).intOf.toNat * 1) (((wrapA IntKind.i64 ((AV.int IntKind.i64 (Int.ofNat at_)).intOf.add ((listAt (List.drop ((Int.ofNat i).toNat * 1) ns) 0).getD AV.undef).intOf)).toNat - (AV.int IntKind.i64 (Int.ofNat at_)).intOf.toNat) * 1)) 0 ((wrapA IntKind.i64 ((AV.int IntKind.i64 (Int.ofNat at_)).intOf.add ((listAt (List.drop ((Int.ofNat i).toNat * 1) ns) 0).getD AV.undef).intOf)).toNat - (AV.int IntKind.i64 (Int.ofNat at_)).intOf.toNat))).getD []) ((bytesOf (rowCut b ((Int.ofNat at_).toNat * 1) (((wrapA IntKind.i64 ((Int.ofNat at_).add ((listAt (List.drop ((Int.ofNat i).toNat * 1) ns) 0).getD AV.undef).intOf)).toNat - (Int.ofNat at_).toNat) * 1))).getD [])) = false) (h25 : (AV.plainL b) = true) (h26 : (AV.plainL ns) = true) (h27 : (AV.plainL (rowCut bs (0 + (AV.int IntKind.i64 (Int.ofNat at_)).intOf.toNat * 1) (((wrapA IntKind.i64 ((AV.int IntKind.i64 (Int.ofNat at_)).intOf.add ((listAt (List.drop ((Int.ofNat i).toNat * 1) ns) 0).getD AV.undef).intOf)).toNat - (AV.int IntKind.i64 (Int.ofNat at_)).intOf.toNat) * 1))) = true) (h28 : (((wrapA IntKind.i64 ((AV.int IntKind.i64 (Int.ofNat at_)).intOf.add ((listAt (List.drop ((Int.ofNat i).toNat * 1) ns) 0).getD AV.undef).intOf)).toNat - (AV.int IntKind.i64 (Int.ofNat at_)).intOf.toNat).beq ((wrapA IntKind.i64 ((AV.int IntKind.i64 (Int.ofNat at_)).intOf.add ((listAt (List.drop ((Int.ofNat i).toNat * 1) ns) 0).getD AV.undef).intOf)).toNat - (AV.int IntKind.i64 (Int.ofNat at_)).intOf.toNat)) = true) (h29 : (((wrapA IntKind.i64 ((AV.int IntKind.i64 (Int.ofNat at_)).intOf.add ((listAt (List.drop ((Int.ofNat i).toNat * 1) ns) 0).getD AV.undef).intOf)).toNat - (AV.int IntKind.i64 (Int.ofNat at_)).intOf.toNat).succ.ble 1000000) = true) (h30 : (lb.beq lb) = true) (h31 : (AV.plainL (kept (ofBytes (goX ((wrapA IntKind.i64 ((AV.int IntKind.i64 (Int.ofNat at_)).intOf.add ((listAt (List.drop ((Int.ofNat i).toNat * 1) ns) 0).getD AV.undef).intOf)).toNat - (AV.int IntKind.i64 (Int.ofNat at_)).intOf.toNat) (bytesL (rowCut bs (0 + (AV.int IntKind.i64 (Int.ofNat at_)).intOf.toNat * 1) (((wrapA IntKind.i64 ((AV.int IntKind.i64 (Int.ofNat at_)).intOf.add ((listAt (List.drop ((Int.ofNat i).toNat * 1) ns) 0).getD AV.undef).intOf)).toNat - (AV.int IntKind.i64 (Int.ofNat at_)).intOf.toNat) * 1))) 0)))) = true) (h32 : (!ieqB (AV.int IntKind.i64 (wrapA IntKind.i64 ((AV.int IntKind.i64 (Int.ofNat at_)).intOf.add ((listAt (List.drop ((Int.ofNat i).toNat * 1) ns) 0).getD AV.undef).intOf))).intOf (wrapA IntKind.i64 ((Int.ofNat at_).add ((listAt (List.drop ((Int.ofNat i).toNat * 1) ns) 0).getD AV.undef).intOf))) = false) (h33 : (!ieqB (wrapA IntKind.i64 ((Int.ofNat lb).sub (AV.int IntKind.i64 (wrapA IntKind.i64 ((AV.int IntKind.i64 (Int.ofNat at_)).intOf.add ((listAt (List.drop ((Int.ofNat i).toNat * 1) ns) 0).getD AV.undef).intOf))).intOf)) (wrapA IntKind.i64 ((Int.ofNat lb).sub (wrapA IntKind.i64 ((Int.ofNat at_).add ((listAt (List.drop ((Int.ofNat i).toNat * 1) ns) 0).getD AV.undef).intOf))))) = false) :
    CodeOK Try.prog (tyCx tys) 194 2 (roundOf (blockOf Try.f9 2)) { fr := frameOf 194 ([0, 6, 9, 10, 57, 58, 59].zip [AV.fsl a lb b, AV.ptr (some (0, 0)), AV.int IntKind.i64 (Int.ofNat at_), AV.slice none 0 (some 0), AV.fsl a1 l1 ns, AV.int IntKind.i64 (Int.ofNat l1), AV.int IntKind.i64 (Int.ofNat i)]), ds := upTo 0, H := mkL [Blk.cells true 116 3 [AV.slice (some (1, 0)) lb none, AV.int IntKind.i64 (Int.ofNat at_), AV.slice none 0 (some 0)], Blk.cells true 5 lb bs] } (AX.normal) ⟨frameOf 194 ([0, 6, 9, 10, 57, 58, 59].zip [AV.fsl a lb b, AV.ptr (some (0, 0)), AV.int IntKind.i64 (wrapA IntKind.i64 ((Int.ofNat at_).add ((listAt (List.drop ((Int.ofNat i).toNat * 1) ns) 0).getD AV.undef).intOf)), AV.slice (some (2, 0)) 1 none, AV.fsl a1 l1 ns, AV.int IntKind.i64 (Int.ofNat l1), AV.int IntKind.i64 (wrapA IntKind.i64 ((Int.ofNat i).add (Int.ofNat 1)))]), upTo 0, mkL [Blk.cells true 116 3 [AV.slice (some (1, 0)) lb none, AV.int IntKind.i64 (wrapA IntKind.i64 ((AV.int IntKind.i64 (Int.ofNat at_)).intOf.add ((listAt (List.drop ((Int.ofNat i).toNat * 1) ns) 0).getD AV.undef).intOf)), AV.slice (some (3, 0)) 1 none], Blk.cells true 5 lb bs, Blk.cells true 62 3 [AV.str [UInt8.ofNat (wrapA IntKind.u8 ((Int.ofNat 97).add (wrapA IntKind.u8 ((Int.ofNat i).tmod (Int.ofNat 26))))).toNat], AV.int IntKind.i64 (Int.ofNat at_), AV.int IntKind.i64 ((listAt (List.drop ((Int.ofNat i).toNat * 1) ns) 0).getD AV.undef).intOf], Blk.cells true 62 3 [AV.str [UInt8.ofNat (wrapA IntKind.u8 ((Int.ofNat 97).add (wrapA IntKind.u8 ((Int.ofNat i).tmod (Int.ofNat 26))))).toNat], AV.int IntKind.i64 (AV.int IntKind.i64 (Int.ofNat at_)).intOf, AV.int IntKind.i64 ((listAt (List.drop ((Int.ofNat i).toNat * 1) ns) 0).getD AV.undef).intOf]]⟩ :=
  zrows_run (g := 30) (k := 9) (f := 30) (sl := [0, 6, 9, 10, 57, 58, 59]) (ks := [0, 1, 7, 4]) (rs := []) (ds := []) (cxZ cx_goes) all8c (q := (.y :: (oc 1 (.y :: (.y :: (.y :: (.y :: (oc 7 (.z :: (oc 7 (.z :: (oc 30 (.y :: (oc 6 (.y :: (.y :: (oc 6 (.y :: (oc 4 (.y :: (oc 11 (.y :: (.y :: (oc 1 (.y :: (.y :: (.y :: (.y :: (.y :: (.y :: (oc 6 (.y :: (oc 6 (.y :: (oc 6 (.y :: (.y :: (.y :: (.y :: (.y :: (oc 1 (.y :: (.y :: (.y :: (oc 6 (.z :: (.z :: (oc 2 (.y :: (.y :: (oc 6 (.y :: (.y :: (.y :: (oc 1 (.y :: (oc 1 (.y :: (.y :: (oc 2 (.z :: (oc 24 (.y :: (oc 2 (.y :: (oc 7 (.y :: (oc 1 (.y :: (oc 2 (.y :: (oc 2 (.y :: (oc 7 (.y :: (oc 1 (.y :: (oc 2 (.y :: (.y :: (.y :: (.y :: (oc 1 (.y :: (.y :: (oc 2 (.y :: (.y :: (.y :: (.y :: (oc 3 (.y :: (oc 2 (.y :: (oc 7 (.y :: (oc 1 (.y :: (oc 6 (.z :: (.z :: (oc 7 (.z :: (.z :: (.z :: (.z :: (.z :: (.z :: (.z :: []))))))))))))))))))))))))))))))))))))))))))))))))))))))))))))))))))))))))))))))))))))))))))))))))))))))))))))) (c := (Cnd.tst _ true :: Cnd.tst _ true :: Cnd.tst _ true :: Cnd.tst _ true :: Cnd.tst _ true :: Cnd.tst _ false :: Cnd.tst _ false :: Cnd.same (AV.str [UInt8.ofNat (wrapA IntKind.u8 ((Int.ofNat 97).add (wrapA IntKind.u8 ((Int.ofNat i).tmod (Int.ofNat 26))))).toNat]) (AV.str [UInt8.ofNat (wrapA IntKind.u8 ((Int.ofNat 97).add (wrapA IntKind.u8 ((Int.ofNat i).tmod (Int.ofNat 26))))).toNat]) :: Cnd.same (AV.int IntKind.i64 (AV.int IntKind.i64 (Int.ofNat at_)).intOf) (AV.int IntKind.i64 (AV.int IntKind.i64 (Int.ofNat at_)).intOf) :: Cnd.same (AV.int IntKind.i64 ((listAt (List.drop ((Int.ofNat i).toNat * 1) ns) 0).getD AV.undef).intOf) (AV.int IntKind.i64 ((listAt (List.drop ((Int.ofNat i).toNat * 1) ns) 0).getD AV.undef).intOf) :: Cnd.same (AV.agg [AV.str [UInt8.ofNat (wrapA IntKind.u8 ((Int.ofNat 97).add (wrapA IntKind.u8 ((Int.ofNat i).tmod (Int.ofNat 26))))).toNat], AV.int IntKind.i64 (AV.int IntKind.i64 (Int.ofNat at_)).intOf, AV.int IntKind.i64 ((listAt (List.drop ((Int.ofNat i).toNat * 1) ns) 0).getD AV.undef).intOf]) (AV.agg [AV.str [UInt8.ofNat (wrapA IntKind.u8 ((Int.ofNat 97).add (wrapA IntKind.u8 ((Int.ofNat i).tmod (Int.ofNat 26))))).toNat], AV.int IntKind.i64 (AV.int IntKind.i64 (Int.ofNat at_)).intOf, AV.int IntKind.i64 ((listAt (List.drop ((Int.ofNat i).toNat * 1) ns) 0).getD AV.undef).intOf]) :: Cnd.same (AV.agg [AV.str [UInt8.ofNat (wrapA IntKind.u8 ((Int.ofNat 97).add (wrapA IntKind.u8 ((Int.ofNat i).tmod (Int.ofNat 26))))).toNat], AV.int IntKind.i64 (AV.int IntKind.i64 (Int.ofNat at_)).intOf, AV.int IntKind.i64 ((listAt (List.drop ((Int.ofNat i).toNat * 1) ns) 0).getD AV.undef).intOf]) (AV.agg [AV.str [UInt8.ofNat (wrapA IntKind.u8 ((Int.ofNat 97).add (wrapA IntKind.u8 ((Int.ofNat i).tmod (Int.ofNat 26))))).toNat], AV.int IntKind.i64 (AV.int IntKind.i64 (Int.ofNat at_)).intOf, AV.int IntKind.i64 ((listAt (List.drop ((Int.ofNat i).toNat * 1) ns) 0).getD AV.undef).intOf]) :: Cnd.tst _ true :: Cnd.tst _ true :: Cnd.tst _ true :: Cnd.tst _ true :: Cnd.tst _ true :: Cnd.tst _ true :: Cnd.tst _ true :: Cnd.tst _ true :: Cnd.same (AV.slice (some (1, 0)) lb none) (AV.slice (some (1, 0)) lb none) :: Cnd.same (AV.int IntKind.i64 (AV.int IntKind.i64 (Int.ofNat at_)).intOf) (AV.int IntKind.i64 (AV.int IntKind.i64 (Int.ofNat at_)).intOf) :: Cnd.same (AV.int IntKind.i64 (AV.int IntKind.i64 (Int.ofNat at_)).intOf) (AV.int IntKind.i64 (AV.int IntKind.i64 (Int.ofNat at_)).intOf) :: Cnd.same (AV.int IntKind.i64 ((listAt (List.drop ((Int.ofNat i).toNat * 1) ns) 0).getD AV.undef).intOf) (AV.int IntKind.i64 ((listAt (List.drop ((Int.ofNat i).toNat * 1) ns) 0).getD AV.undef).intOf) :: Cnd.same (AV.int IntKind.i64 (wrapA IntKind.i64 ((AV.int IntKind.i64 (Int.ofNat at_)).intOf.add ((listAt (List.drop ((Int.ofNat i).toNat * 1) ns) 0).getD AV.undef).intOf))) (AV.int IntKind.i64 (wrapA IntKind.i64 ((AV.int IntKind.i64 (Int.ofNat at_)).intOf.add ((listAt (List.drop ((Int.ofNat i).toNat * 1) ns) 0).getD AV.undef).intOf))) :: Cnd.tst _ true :: Cnd.tst _ true :: Cnd.tst _ true :: Cnd.same (AV.slice (some (1, 0 + (AV.int IntKind.i64 (Int.ofNat at_)).intOf.toNat * 1)) ((wrapA IntKind.i64 ((AV.int IntKind.i64 (Int.ofNat at_)).intOf.add ((listAt (List.drop ((Int.ofNat i).toNat * 1) ns) 0).getD AV.undef).intOf)).toNat - (AV.int IntKind.i64 (Int.ofNat at_)).intOf.toNat) none) (AV.slice (some (1, 0 + (AV.int IntKind.i64 (Int.ofNat at_)).intOf.toNat * 1)) ((wrapA IntKind.i64 ((AV.int IntKind.i64 (Int.ofNat at_)).intOf.add ((listAt (List.drop ((Int.ofNat i).toNat * 1) ns) 0).getD AV.undef).intOf)).toNat - (AV.int IntKind.i64 (Int.ofNat at_)).intOf.toNat) none) :: Cnd.same (AV.slice (some (5, 0)) ((wrapA IntKind.i64 ((AV.int IntKind.i64 (Int.ofNat at_)).intOf.add ((listAt (List.drop ((Int.ofNat i).toNat * 1) ns) 0).getD AV.undef).intOf)).toNat - (AV.int IntKind.i64 (Int.ofNat at_)).intOf.toNat) none) (AV.slice (some (5, 0)) ((wrapA IntKind.i64 ((AV.int IntKind.i64 (Int.ofNat at_)).intOf.add ((listAt (List.drop ((Int.ofNat i).toNat * 1) ns) 0).getD AV.undef).intOf)).toNat - (AV.int IntKind.i64 (Int.ofNat at_)).intOf.toNat) none) :: Cnd.tst _ false :: Cnd.tst _ false :: Cnd.tst _ true :: Cnd.tst _ true :: Cnd.tst _ true :: Cnd.tst _ true :: Cnd.tst _ true :: Cnd.tst _ true :: Cnd.tst _ true :: Cnd.tst _ true :: Cnd.tst _ false :: Cnd.code (ZLT.lsumS (flOf tys) ((9, 5), tIn.lt).snd).fst (ZLT.lsumS (flOf tys) ((9, 5), tIn.lt).snd).fst :: Cnd.tst _ true :: Cnd.tst _ true :: Cnd.tst _ true :: Cnd.tst _ true :: Cnd.tst _ true :: Cnd.tst _ true :: Cnd.tst _ true :: Cnd.tst _ true :: Cnd.tst _ true :: Cnd.tst _ true :: Cnd.tst _ true :: Cnd.tst _ true :: Cnd.tst _ true :: Cnd.tst _ true :: Cnd.tst _ true :: Cnd.tst _ true :: Cnd.tst _ true :: Cnd.tst _ true :: Cnd.tst _ true :: Cnd.tst _ true :: Cnd.tst _ true :: Cnd.tst _ true :: Cnd.tst _ false :: Cnd.tst _ false :: Cnd.tst _ false :: Cnd.tst _ false :: Cnd.tst _ false :: Cnd.tst _ false :: Cnd.tst _ false :: Cnd.tst _ false :: Cnd.tst _ false :: [])) (cq := [AV.plainL b, true, true, AV.plainL ns, true, true, true, true, AV.plainL bs, true, true, true, true]) (by kernel_rfl) ⟨h0, h1, h2, h3, h4, h5, h6, rfl, rfl, rfl, rfl, rfl, h7, h8, h9, h10, h11, h12, h13, h14, rfl, rfl, rfl, rfl, rfl, h7, h8, h9, rfl, rfl, h5, h15, h16, h17, h18, h19, h20, h21, h22, h23, h24, rfl, h25, h26, h27, h11, h25, h26, h27, h11, h13, h12, h28, h28, h29, h30, h30, h25, h26, h11, h25, h26, h31, h11, h32, h32, h32, h32, h32, h32, h32, h32, h33, trivial⟩ (holdsB ⟨h25, rfl, rfl, h26, rfl, rfl, rfl, rfl, h11, rfl, rfl, rfl, rfl, trivial⟩) (by kernel_rfl) (by kernel_rfl) (by kernel_rfl) (by kernel_rfl) (by kernel_rfl)
theorem tt_okB (a : Bool) (lb : Nat) (b : List AV) (at_ : Nat) (a1 : Bool) (l1 : Nat) (ns : List AV) (i : Nat) (bs : List AV) (m : Nat) (ws : List AV) (ts : List AV) (h0 : (iltB (Int.ofNat i) (Int.ofNat l1)) = true) (h1 : ((Int.ofNat i).toNat.succ.ble l1) = true) (h2 : (ns.length.beq (l1.mul 1)) = true) (h3 : (Nat.ble 1 (List.drop ((Int.ofNat i).toNat * 1) ns).length) = true) (h4 : (AV.isInt IntKind.i64 ((listAt (List.drop ((Int.ofNat i).toNat * 1) ns) 0).getD AV.undef)) = true) (h5 : (iltB ((listAt (List.drop ((Int.ofNat i).toNat * 1) ns) 0).getD AV.undef).intOf (Int.ofNat 0)) = false) (h6 : (iltB (wrapA IntKind.i64 ((Int.ofNat lb).sub (AV.int IntKind.i64 (Int.ofNat at_)).intOf)) ((listAt (List.drop ((Int.ofNat i).toNat * 1) ns) 0).getD AV.undef).intOf) = false) (h7 : (appRoom 32 m 1) = true) (h8 : ((m * 3).beq (m * 3)) = true) (h9 : (ileB (Int.ofNat 0) (wrapA IntKind.i64 ((AV.int IntKind.i64 (Int.ofNat at_)).intOf.add ((listAt (List.drop ((Int.ofNat i).toNat * 1) ns) 0).getD AV.undef).intOf))) = true) (h10 : ((wrapA IntKind.i64 ((AV.int IntKind.i64 (Int.ofNat at_)).intOf.add ((listAt (List.drop ((Int.ofNat i).toNat * 1) ns) 0).getD AV.undef).intOf)).toNat.ble lb) = true) (h11 : ((AV.int IntKind.i64 (Int.ofNat at_)).intOf.toNat.ble (wrapA IntKind.i64 ((AV.int IntKind.i64 (Int.ofNat at_)).intOf.add ((listAt (List.drop ((Int.ofNat i).toNat * 1) ns) 0).getD AV.undef).intOf)).toNat) = true) (h12 : ((0 + (AV.int IntKind.i64 (Int.ofNat at_)).intOf.toNat * 1 + ((wrapA IntKind.i64 ((AV.int IntKind.i64 (Int.ofNat at_)).intOf.add ((listAt (List.drop ((Int.ofNat i).toNat * 1) ns) 0).getD AV.undef).intOf)).toNat - (AV.int IntKind.i64 (Int.ofNat at_)).intOf.toNat) * 1).ble lb) = true) (h13 : (AV.plainL bs) = true) (h14 : ((rowCut bs (0 + (AV.int IntKind.i64 (Int.ofNat at_)).intOf.toNat * 1) (((wrapA IntKind.i64 ((AV.int IntKind.i64 (Int.ofNat at_)).intOf.add ((listAt (List.drop ((Int.ofNat i).toNat * 1) ns) 0).getD AV.undef).intOf)).toNat - (AV.int IntKind.i64 (Int.ofNat at_)).intOf.toNat) * 1)).length.beq ((wrapA IntKind.i64 ((AV.int IntKind.i64 (Int.ofNat at_)).intOf.add ((listAt (List.drop ((Int.ofNat i).toNat * 1) ns) 0).getD AV.undef).intOf)).toNat - (AV.int IntKind.i64 (Int.ofNat at_)).intOf.toNat)) = true) (h15 : (u8L (rowCut bs (0 + (AV.int IntKind.i64 (Int.ofNat at_)).intOf.toNat * 1) (((wrapA IntKind.i64 ((AV.int IntKind.i64 (Int.ofNat at_)).intOf.add ((listAt (List.drop ((Int.ofNat i).toNat * 1) ns) 0).getD AV.undef).intOf)).toNat - (AV.int IntKind.i64 (Int.ofNat at_)).intOf.toNat) * 1))) = true) (h16 : (((wrapA IntKind.i64 ((AV.int IntKind.i64 (Int.ofNat at_)).intOf.add ((listAt (List.drop ((Int.ofNat i).toNat * 1) ns) 0).getD AV.undef).intOf)).toNat - (AV.int IntKind.i64 (Int.ofNat at_)).intOf.toNat).ble 1099511627776) = true) (h17 : (iltB (wrapA IntKind.i64 ((Int.ofNat lb).sub (Int.ofNat at_))) ((listAt (List.drop ((Int.ofNat i).toNat * 1) ns) 0).getD AV.undef).intOf) = false) (h18 : ((0 + ((wrapA IntKind.i64 ((AV.int IntKind.i64 (Int.ofNat at_)).intOf.add ((listAt (List.drop ((Int.ofNat i).toNat * 1) ns) 0).getD AV.undef).intOf)).toNat - (AV.int IntKind.i64 (Int.ofNat at_)).intOf.toNat)).ble ((wrapA IntKind.i64 ((AV.int IntKind.i64 (Int.ofNat at_)).intOf.add ((listAt (List.drop ((Int.ofNat i).toNat * 1) ns) 0).getD AV.undef).intOf)).toNat - (AV.int IntKind.i64 (Int.ofNat at_)).intOf.toNat)) = true) (h19 : ((bytesOf (rowCut (rowCut bs (0 + (AV.int IntKind.i64 (Int.ofNat at_)).intOf.toNat * 1) (((wrapA IntKind.i64 ((AV.int IntKind.i64 (Int.ofNat at_)).intOf.add ((listAt (List.drop ((Int.ofNat i).toNat * 1) ns) 0).getD AV.undef).intOf)).toNat - (AV.int IntKind.i64 (Int.ofNat at_)).intOf.toNat) * 1)) 0 ((wrapA IntKind.i64 ((AV.int IntKind.i64 (Int.ofNat at_)).intOf.add ((listAt (List.drop ((Int.ofNat i).toNat * 1) ns) 0).getD AV.undef).intOf)).toNat - (AV.int IntKind.i64 (Int.ofNat at_)).intOf.toNat))).isSome) = true) (h20 : (b.length.beq (lb.mul 1)) = true) (h21 : (ileB (Int.ofNat 0) (wrapA IntKind.i64 ((Int.ofNat at_).add ((listAt (List.drop ((Int.ofNat i).toNat * 1) ns) 0).getD AV.undef).intOf))) = true) (h22 : ((wrapA IntKind.i64 ((Int.ofNat at_).add ((listAt (List.drop ((Int.ofNat i).toNat * 1) ns) 0).getD AV.undef).intOf)).toNat.ble lb) = true) (h23 : ((Int.ofNat at_).toNat.ble (wrapA IntKind.i64 ((Int.ofNat at_).add ((listAt (List.drop ((Int.ofNat i).toNat * 1) ns) 0).getD AV.undef).intOf)).toNat) = true) (h24 : ((rowCut b ((Int.ofNat at_).toNat * 1) (((wrapA IntKind.i64 ((Int.ofNat at_).add ((listAt (List.drop ((Int.ofNat i).toNat * 1) ns) 0).getD AV.undef).intOf)).toNat - (Int.ofNat at_).toNat) * 1)).length.beq ((wrapA IntKind.i64 ((Int.ofNat at_).add ((listAt (List.drop ((Int.ofNat i).toNat * 1) ns) 0).getD AV.undef).intOf)).toNat - (Int.ofNat at_).toNat)) = true) (h25 : ((bytesOf (rowCut b ((Int.ofNat at_).toNat * 1) (((wrapA IntKind.i64 ((Int.ofNat at_).add ((listAt (List.drop ((Int.ofNat i).toNat * 1) ns) 0).getD AV.undef).intOf)).toNat - (Int.ofNat at_).toNat) * 1))).isSome) = true) (h26 : (!bytesEq ((bytesOf (rowCut (rowCut bs (0 + (AV.int IntKind.i64 (Int.ofNat at_)).intOf.toNat * 1) (((wrapA IntKind.i64 ((AV.int IntKind.i64 (Int.ofNat at_)).intOf.add ((listAt (List.drop ((Int.ofNat i).toNat * 1) ns) 0).getD AV.undef).intOf)).toNat - (AV.int IntKind.i64 (Int.ofNat at_)).intOf.toNat) * 1)) 0 ((wrapA IntKind.i64 ((AV.int IntKind.i64 (Int.ofNat at_)).intOf.add ((listAt (List.drop ((Int.ofNat i).toNat * 1) ns) 0).getD AV.undef).intOf)).toNat - (AV.int IntKind.i64 (Int.ofNat at_)).intOf.toNat))).getD []) ((bytesOf (rowCut b ((Int.ofNat at_).toNat * 1) (((wrapA IntKind.i64 ((Int.ofNat at_).add ((listAt (List.drop ((Int.ofNat i).toNat * 1) ns) 0).getD AV.undef).intOf)).toNat - (Int.ofNat at_).toNat) * 1))).getD [])) = false) (h27 : (AV.plainL b) = true) (h28 : (AV.plainL ns) = true) (h29 : (AV.plainL (ws ++ [AV.str [UInt8.ofNat (wrapA IntKind.u8 ((Int.ofNat 97).add (wrapA IntKind.u8 ((Int.ofNat i).tmod (Int.ofNat 26))))).toNat], AV.int IntKind.i64 (Int.ofNat at_), AV.int IntKind.i64 ((listAt (List.drop ((Int.ofNat i).toNat * 1) ns) 0).getD AV.undef).intOf])) = true) (h30 : (AV.plainL (rowCut bs (0 + (AV.int IntKind.i64 (Int.ofNat at_)).intOf.toNat * 1) (((wrapA IntKind.i64 ((AV.int IntKind.i64 (Int.ofNat at_)).intOf.add ((listAt (List.drop ((Int.ofNat i).toNat * 1) ns) 0).getD AV.undef).intOf)).toNat - (AV.int IntKind.i64 (Int.ofNat at_)).intOf.toNat) * 1))) = true) (h31 : (AV.plainL (ts ++ [AV.str [UInt8.ofNat (wrapA IntKind.u8 ((Int.ofNat 97).add (wrapA IntKind.u8 ((Int.ofNat i).tmod (Int.ofNat 26))))).toNat], AV.int IntKind.i64 (AV.int IntKind.i64 (Int.ofNat at_)).intOf, AV.int IntKind.i64 ((listAt (List.drop ((Int.ofNat i).toNat * 1) ns) 0).getD AV.undef).intOf])) = true) (h32 : (((wrapA IntKind.i64 ((AV.int IntKind.i64 (Int.ofNat at_)).intOf.add ((listAt (List.drop ((Int.ofNat i).toNat * 1) ns) 0).getD AV.undef).intOf)).toNat - (AV.int IntKind.i64 (Int.ofNat at_)).intOf.toNat).beq ((wrapA IntKind.i64 ((AV.int IntKind.i64 (Int.ofNat at_)).intOf.add ((listAt (List.drop ((Int.ofNat i).toNat * 1) ns) 0).getD AV.undef).intOf)).toNat - (AV.int IntKind.i64 (Int.ofNat at_)).intOf.toNat)) = true) (h33 : (((wrapA IntKind.i64 ((AV.int IntKind.i64 (Int.ofNat at_)).intOf.add ((listAt (List.drop ((Int.ofNat i).toNat * 1) ns) 0).getD AV.undef).intOf)).toNat - (AV.int IntKind.i64 (Int.ofNat at_)).intOf.toNat).succ.ble 1000000) = true) (h34 : (lb.beq lb) = true) (h35 : ((ws ++ [AV.str [UInt8.ofNat (wrapA IntKind.u8 ((Int.ofNat 97).add (wrapA IntKind.u8 ((Int.ofNat i).tmod (Int.ofNat 26))))).toNat], AV.int IntKind.i64 (Int.ofNat at_), AV.int IntKind.i64 ((listAt (List.drop ((Int.ofNat i).toNat * 1) ns) 0).getD AV.undef).intOf]).length.beq ((m + 1) * 3)) = true) (h36 : ((ts ++ [AV.str [UInt8.ofNat (wrapA IntKind.u8 ((Int.ofNat 97).add (wrapA IntKind.u8 ((Int.ofNat i).tmod (Int.ofNat 26))))).toNat], AV.int IntKind.i64 (AV.int IntKind.i64 (Int.ofNat at_)).intOf, AV.int IntKind.i64 ((listAt (List.drop ((Int.ofNat i).toNat * 1) ns) 0).getD AV.undef).intOf]).length.beq ((m + 1) * 3)) = true) (h37 : (AV.plainL (kept (ofBytes (goX ((wrapA IntKind.i64 ((AV.int IntKind.i64 (Int.ofNat at_)).intOf.add ((listAt (List.drop ((Int.ofNat i).toNat * 1) ns) 0).getD AV.undef).intOf)).toNat - (AV.int IntKind.i64 (Int.ofNat at_)).intOf.toNat) (bytesL (rowCut bs (0 + (AV.int IntKind.i64 (Int.ofNat at_)).intOf.toNat * 1) (((wrapA IntKind.i64 ((AV.int IntKind.i64 (Int.ofNat at_)).intOf.add ((listAt (List.drop ((Int.ofNat i).toNat * 1) ns) 0).getD AV.undef).intOf)).toNat - (AV.int IntKind.i64 (Int.ofNat at_)).intOf.toNat) * 1))) 0)))) = true) (h38 : (!ieqB (AV.int IntKind.i64 (wrapA IntKind.i64 ((AV.int IntKind.i64 (Int.ofNat at_)).intOf.add ((listAt (List.drop ((Int.ofNat i).toNat * 1) ns) 0).getD AV.undef).intOf))).intOf (wrapA IntKind.i64 ((Int.ofNat at_).add ((listAt (List.drop ((Int.ofNat i).toNat * 1) ns) 0).getD AV.undef).intOf))) = false) (h39 : (!ieqB (wrapA IntKind.i64 ((Int.ofNat lb).sub (AV.int IntKind.i64 (wrapA IntKind.i64 ((AV.int IntKind.i64 (Int.ofNat at_)).intOf.add ((listAt (List.drop ((Int.ofNat i).toNat * 1) ns) 0).getD AV.undef).intOf))).intOf)) (wrapA IntKind.i64 ((Int.ofNat lb).sub (wrapA IntKind.i64 ((Int.ofNat at_).add ((listAt (List.drop ((Int.ofNat i).toNat * 1) ns) 0).getD AV.undef).intOf))))) = false) :
    CodeOK Try.prog (tyCx tys) 194 2 (roundOf (blockOf Try.f9 2)) { fr := frameOf 194 ([0, 6, 9, 10, 57, 58, 59].zip [AV.fsl a lb b, AV.ptr (some (0, 0)), AV.int IntKind.i64 (Int.ofNat at_), AV.slice (some (2, 0)) m none, AV.fsl a1 l1 ns, AV.int IntKind.i64 (Int.ofNat l1), AV.int IntKind.i64 (Int.ofNat i)]), ds := upTo 0, H := mkL [Blk.cells true 116 3 [AV.slice (some (1, 0)) lb none, AV.int IntKind.i64 (Int.ofNat at_), AV.slice (some (3, 0)) m none], Blk.cells true 5 lb bs, Blk.cells true 62 (m * 3) ws, Blk.cells true 62 (m * 3) ts] } (AX.normal) ⟨frameOf 194 ([0, 6, 9, 10, 57, 58, 59].zip [AV.fsl a lb b, AV.ptr (some (0, 0)), AV.int IntKind.i64 (wrapA IntKind.i64 ((Int.ofNat at_).add ((listAt (List.drop ((Int.ofNat i).toNat * 1) ns) 0).getD AV.undef).intOf)), AV.slice (some (2, 0)) (m + 1) none, AV.fsl a1 l1 ns, AV.int IntKind.i64 (Int.ofNat l1), AV.int IntKind.i64 (wrapA IntKind.i64 ((Int.ofNat i).add (Int.ofNat 1)))]), upTo 0, mkL [Blk.cells true 116 3 [AV.slice (some (1, 0)) lb none, AV.int IntKind.i64 (wrapA IntKind.i64 ((AV.int IntKind.i64 (Int.ofNat at_)).intOf.add ((listAt (List.drop ((Int.ofNat i).toNat * 1) ns) 0).getD AV.undef).intOf)), AV.slice (some (3, 0)) (m + 1) none], Blk.cells true 5 lb bs, Blk.cells true 62 ((m + 1) * 3) (ws ++ [AV.str [UInt8.ofNat (wrapA IntKind.u8 ((Int.ofNat 97).add (wrapA IntKind.u8 ((Int.ofNat i).tmod (Int.ofNat 26))))).toNat], AV.int IntKind.i64 (Int.ofNat at_), AV.int IntKind.i64 ((listAt (List.drop ((Int.ofNat i).toNat * 1) ns) 0).getD AV.undef).intOf]), Blk.cells true 62 ((m + 1) * 3) (ts ++ [AV.str [UInt8.ofNat (wrapA IntKind.u8 ((Int.ofNat 97).add (wrapA IntKind.u8 ((Int.ofNat i).tmod (Int.ofNat 26))))).toNat], AV.int IntKind.i64 (AV.int IntKind.i64 (Int.ofNat at_)).intOf, AV.int IntKind.i64 ((listAt (List.drop ((Int.ofNat i).toNat * 1) ns) 0).getD AV.undef).intOf])]⟩ :=
  zrows_run (g := 30) (k := 9) (f := 30) (sl := [0, 6, 9, 10, 57, 58, 59]) (ks := [0, 1, 9, 6]) (rs := []) (ds := []) (cxZ cx_goes) all8c (q := (.y :: (oc 1 (.y :: (.y :: (.y :: (.y :: (oc 7 (.z :: (oc 7 (.z :: (oc 17 (.y :: (.y :: (oc 12 (.y :: (.y :: (oc 6 (.y :: (.y :: (oc 6 (.y :: (oc 4 (.y :: (oc 11 (.y :: (.y :: (oc 1 (.y :: (.y :: (.y :: (.y :: (.y :: (.y :: (oc 6 (.y :: (oc 6 (.y :: (oc 6 (.y :: (.y :: (.y :: (.y :: (.y :: (oc 1 (.y :: (.y :: (.y :: (oc 6 (.z :: (.z :: (oc 2 (.y :: (.y :: (oc 6 (.y :: (.y :: (.y :: (oc 1 (.y :: (oc 1 (.y :: (.y :: (oc 2 (.z :: (oc 11 (.y :: (.y :: (oc 13 (.y :: (oc 2 (.y :: (oc 5 (.y :: (oc 1 (.y :: (oc 1 (.y :: (oc 1 (.y :: (.y :: (oc 2 (.y :: (oc 5 (.y :: (oc 1 (.y :: (oc 1 (.y :: (oc 1 (.y :: (.y :: (.y :: (.y :: (.y :: (oc 1 (.y :: (.y :: (.y :: (.y :: (.y :: (.y :: (.y :: (.y :: (.y :: (.y :: (oc 1 (.y :: (oc 2 (.y :: (oc 5 (.y :: (oc 1 (.y :: (oc 1 (.y :: (oc 1 (.y :: (oc 4 (.z :: (.z :: (oc 7 (.z :: (.z :: (.z :: (.z :: (.z :: (.z :: (.z :: []))))))))))))))))))))))))))))))))))))))))))))))))))))))))))))))))))))))))))))))))))))))))))))))))))))))))))))))))))))))))))))))))) (c := (Cnd.tst _ true :: Cnd.tst _ true :: Cnd.tst _ true :: Cnd.tst _ true :: Cnd.tst _ true :: Cnd.tst _ false :: Cnd.tst _ false :: Cnd.tst _ true :: Cnd.tst _ true :: Cnd.same (AV.slice (some (3, 0)) m none) (AV.slice (some (3, 0)) m none) :: Cnd.same (AV.str [UInt8.ofNat (wrapA IntKind.u8 ((Int.ofNat 97).add (wrapA IntKind.u8 ((Int.ofNat i).tmod (Int.ofNat 26))))).toNat]) (AV.str [UInt8.ofNat (wrapA IntKind.u8 ((Int.ofNat 97).add (wrapA IntKind.u8 ((Int.ofNat i).tmod (Int.ofNat 26))))).toNat]) :: Cnd.same (AV.int IntKind.i64 (AV.int IntKind.i64 (Int.ofNat at_)).intOf) (AV.int IntKind.i64 (AV.int IntKind.i64 (Int.ofNat at_)).intOf) :: Cnd.same (AV.int IntKind.i64 ((listAt (List.drop ((Int.ofNat i).toNat * 1) ns) 0).getD AV.undef).intOf) (AV.int IntKind.i64 ((listAt (List.drop ((Int.ofNat i).toNat * 1) ns) 0).getD AV.undef).intOf) :: Cnd.same (AV.agg [AV.str [UInt8.ofNat (wrapA IntKind.u8 ((Int.ofNat 97).add (wrapA IntKind.u8 ((Int.ofNat i).tmod (Int.ofNat 26))))).toNat], AV.int IntKind.i64 (AV.int IntKind.i64 (Int.ofNat at_)).intOf, AV.int IntKind.i64 ((listAt (List.drop ((Int.ofNat i).toNat * 1) ns) 0).getD AV.undef).intOf]) (AV.agg [AV.str [UInt8.ofNat (wrapA IntKind.u8 ((Int.ofNat 97).add (wrapA IntKind.u8 ((Int.ofNat i).tmod (Int.ofNat 26))))).toNat], AV.int IntKind.i64 (AV.int IntKind.i64 (Int.ofNat at_)).intOf, AV.int IntKind.i64 ((listAt (List.drop ((Int.ofNat i).toNat * 1) ns) 0).getD AV.undef).intOf]) :: Cnd.same (AV.agg [AV.str [UInt8.ofNat (wrapA IntKind.u8 ((Int.ofNat 97).add (wrapA IntKind.u8 ((Int.ofNat i).tmod (Int.ofNat 26))))).toNat], AV.int IntKind.i64 (AV.int IntKind.i64 (Int.ofNat at_)).intOf, AV.int IntKind.i64 ((listAt (List.drop ((Int.ofNat i).toNat * 1) ns) 0).getD AV.undef).intOf]) (AV.agg [AV.str [UInt8.ofNat (wrapA IntKind.u8 ((Int.ofNat 97).add (wrapA IntKind.u8 ((Int.ofNat i).tmod (Int.ofNat 26))))).toNat], AV.int IntKind.i64 (AV.int IntKind.i64 (Int.ofNat at_)).intOf, AV.int IntKind.i64 ((listAt (List.drop ((Int.ofNat i).toNat * 1) ns) 0).getD AV.undef).intOf]) :: Cnd.tst _ true :: Cnd.tst _ true :: Cnd.tst _ true :: Cnd.tst _ true :: Cnd.tst _ true :: Cnd.tst _ true :: Cnd.tst _ true :: Cnd.tst _ true :: Cnd.same (AV.slice (some (1, 0)) lb none) (AV.slice (some (1, 0)) lb none) :: Cnd.same (AV.int IntKind.i64 (AV.int IntKind.i64 (Int.ofNat at_)).intOf) (AV.int IntKind.i64 (AV.int IntKind.i64 (Int.ofNat at_)).intOf) :: Cnd.same (AV.int IntKind.i64 (AV.int IntKind.i64 (Int.ofNat at_)).intOf) (AV.int IntKind.i64 (AV.int IntKind.i64 (Int.ofNat at_)).intOf) :: Cnd.same (AV.int IntKind.i64 ((listAt (List.drop ((Int.ofNat i).toNat * 1) ns) 0).getD AV.undef).intOf) (AV.int IntKind.i64 ((listAt (List.drop ((Int.ofNat i).toNat * 1) ns) 0).getD AV.undef).intOf) :: Cnd.same (AV.int IntKind.i64 (wrapA IntKind.i64 ((AV.int IntKind.i64 (Int.ofNat at_)).intOf.add ((listAt (List.drop ((Int.ofNat i).toNat * 1) ns) 0).getD AV.undef).intOf))) (AV.int IntKind.i64 (wrapA IntKind.i64 ((AV.int IntKind.i64 (Int.ofNat at_)).intOf.add ((listAt (List.drop ((Int.ofNat i).toNat * 1) ns) 0).getD AV.undef).intOf))) :: Cnd.tst _ true :: Cnd.tst _ true :: Cnd.tst _ true :: Cnd.same (AV.slice (some (1, 0 + (AV.int IntKind.i64 (Int.ofNat at_)).intOf.toNat * 1)) ((wrapA IntKind.i64 ((AV.int IntKind.i64 (Int.ofNat at_)).intOf.add ((listAt (List.drop ((Int.ofNat i).toNat * 1) ns) 0).getD AV.undef).intOf)).toNat - (AV.int IntKind.i64 (Int.ofNat at_)).intOf.toNat) none) (AV.slice (some (1, 0 + (AV.int IntKind.i64 (Int.ofNat at_)).intOf.toNat * 1)) ((wrapA IntKind.i64 ((AV.int IntKind.i64 (Int.ofNat at_)).intOf.add ((listAt (List.drop ((Int.ofNat i).toNat * 1) ns) 0).getD AV.undef).intOf)).toNat - (AV.int IntKind.i64 (Int.ofNat at_)).intOf.toNat) none) :: Cnd.same (AV.slice (some (7, 0)) ((wrapA IntKind.i64 ((AV.int IntKind.i64 (Int.ofNat at_)).intOf.add ((listAt (List.drop ((Int.ofNat i).toNat * 1) ns) 0).getD AV.undef).intOf)).toNat - (AV.int IntKind.i64 (Int.ofNat at_)).intOf.toNat) none) (AV.slice (some (7, 0)) ((wrapA IntKind.i64 ((AV.int IntKind.i64 (Int.ofNat at_)).intOf.add ((listAt (List.drop ((Int.ofNat i).toNat * 1) ns) 0).getD AV.undef).intOf)).toNat - (AV.int IntKind.i64 (Int.ofNat at_)).intOf.toNat) none) :: Cnd.tst _ false :: Cnd.tst _ false :: Cnd.tst _ true :: Cnd.tst _ true :: Cnd.tst _ true :: Cnd.tst _ true :: Cnd.tst _ true :: Cnd.tst _ true :: Cnd.tst _ true :: Cnd.tst _ true :: Cnd.tst _ false :: Cnd.tst _ true :: Cnd.tst _ true :: Cnd.code (ZLT.lsumS (flOf tys) ((9, 5), tIn.lt).snd).fst (ZLT.lsumS (flOf tys) ((9, 5), tIn.lt).snd).fst :: Cnd.tst _ true :: Cnd.tst _ true :: Cnd.tst _ true :: Cnd.tst _ true :: Cnd.tst _ true :: Cnd.tst _ true :: Cnd.tst _ true :: Cnd.tst _ true :: Cnd.tst _ true :: Cnd.tst _ true :: Cnd.tst _ true :: Cnd.tst _ true :: Cnd.tst _ true :: Cnd.tst _ true :: Cnd.tst _ true :: Cnd.tst _ true :: Cnd.tst _ true :: Cnd.tst _ true :: Cnd.tst _ true :: Cnd.tst _ true :: Cnd.tst _ true :: Cnd.tst _ true :: Cnd.tst _ true :: Cnd.tst _ true :: Cnd.tst _ true :: Cnd.tst _ true :: Cnd.tst _ true :: Cnd.tst _ true :: Cnd.tst _ true :: Cnd.tst _ true :: Cnd.tst _ true :: Cnd.tst _ true :: Cnd.tst _ false :: Cnd.tst _ false :: Cnd.tst _ false :: Cnd.tst _ false :: Cnd.tst _ false :: Cnd.tst _ false :: Cnd.tst _ false :: Cnd.tst _ false :: Cnd.tst _ false :: [])) (cq := [AV.plainL b, true, true, AV.plainL ns, true, true, true, true, AV.plainL bs, true, AV.plainL (ws ++ [AV.str [UInt8.ofNat (wrapA IntKind.u8 ((Int.ofNat 97).add (wrapA IntKind.u8 ((Int.ofNat i).tmod (Int.ofNat 26))))).toNat], AV.int IntKind.i64 (Int.ofNat at_), AV.int IntKind.i64 ((listAt (List.drop ((Int.ofNat i).toNat * 1) ns) 0).getD AV.undef).intOf]), true, AV.plainL (ts ++ [AV.str [UInt8.ofNat (wrapA IntKind.u8 ((Int.ofNat 97).add (wrapA IntKind.u8 ((Int.ofNat i).tmod (Int.ofNat 26))))).toNat], AV.int IntKind.i64 (AV.int IntKind.i64 (Int.ofNat at_)).intOf, AV.int IntKind.i64 ((listAt (List.drop ((Int.ofNat i).toNat * 1) ns) 0).getD AV.undef).intOf])]) (by kernel_rfl) ⟨h0, h1, h2, h3, h4, h5, h6, h7, h8, rfl, rfl, rfl, rfl, rfl, rfl, h9, h10, h11, h12, h13, h14, h15, h16, rfl, rfl, rfl, rfl, rfl, h9, h10, h11, rfl, rfl, h5, h17, h18, h19, h20, h21, h22, h23, h24, h25, h26, h7, h8, rfl, h27, h28, h29, h30, h13, h31, h27, h28, h29, h30, h13, h31, h15, h14, h32, h32, h33, h34, h35, h36, h34, h27, h28, h13, h29, h31, h27, h28, h29, h37, h13, h31, h38, h38, h38, h38, h38, h38, h38, h38, h39, trivial⟩ (holdsB ⟨h27, rfl, rfl, h28, rfl, rfl, rfl, rfl, h13, rfl, h29, rfl, h31, trivial⟩) (by kernel_rfl) (by kernel_rfl) (by kernel_rfl) (by kernel_rfl) (by kernel_rfl)
structure TM where
  a : Bool
  bl : List UInt8
  a1 : Bool
  zs : List Int
  i : Nat
  s : Nat × List TK
def encM (a : Bool) (bl : List UInt8) (a1 : Bool) (zs : List Int) (i at_ : Nat) (ts : List TK) : ZSt :=
  match ts with
  | [] => ([.fsl a bl.length (ofBytes bl), .ptr (some (0, 0)), .int .i64 (Int.ofNat at_), .slice none 0 (some 0), .fsl a1 zs.length (encZ zs), .int .i64 (Int.ofNat zs.length), .int .i64 (Int.ofNat i)],
      [.cells true 116 3 [.slice (some (1, 0)) bl.length none, .int .i64 (Int.ofNat at_), .slice none 0 (some 0)], .cells true 5 bl.length (ofBytes bl)])
  | ts => ([.fsl a bl.length (ofBytes bl), .ptr (some (0, 0)), .int .i64 (Int.ofNat at_), .slice (some (2, 0)) ts.length none, .fsl a1 zs.length (encZ zs), .int .i64 (Int.ofNat zs.length), .int .i64 (Int.ofNat i)],
      [.cells true 116 3 [.slice (some (1, 0)) bl.length none, .int .i64 (Int.ofNat at_), .slice (some (3, 0)) ts.length none], .cells true 5 bl.length (ofBytes bl), .cells true 62 (ts.length * 3) (encT ts), .cells true 62 (ts.length * 3) (encT ts)])
theorem encM_some (a : Bool) (bl : List UInt8) (a1 : Bool) (zs : List Int) (i at_ : Nat) (ts : List TK) (h : ts ≠ []) : encM a bl a1 zs i at_ ts =
    ([.fsl a bl.length (ofBytes bl), .ptr (some (0, 0)), .int .i64 (Int.ofNat at_), .slice (some (2, 0)) ts.length none, .fsl a1 zs.length (encZ zs), .int .i64 (Int.ofNat zs.length), .int .i64 (Int.ofNat i)],
      [.cells true 116 3 [.slice (some (1, 0)) bl.length none, .int .i64 (Int.ofNat at_), .slice (some (3, 0)) ts.length none], .cells true 5 bl.length (ofBytes bl), .cells true 62 (ts.length * 3) (encT ts), .cells true 62 (ts.length * 3) (encT ts)]) := by
  cases ts with
  | nil => exact absurd rfl h
  | cons _ _ => rfl
def TM.enc (p : TM) : ZSt := encM p.a p.bl p.a1 p.zs p.i p.s.1 p.s.2
def TM.fin (p : TM) : AX × ZSt := (.exit 2, encM p.a p.bl p.a1 p.zs p.zs.length (tkR p.bl.length p.i (p.zs.drop p.i) p.s).1 (tkR p.bl.length p.i (p.zs.drop p.i) p.s).2)
def TM.ok (p : TM) : Prop := p.i ≤ p.zs.length ∧ p.bl.length ≤ 200 ∧ p.zs.length ≤ 40 ∧ p.s.1 ≤ p.bl.length ∧ p.s.2.length ≤ p.i
def tMc (lb : Nat) (b ds : List AV) (lb2 lb3 z z2 l l1 i : Nat) (ns : List AV) : List Bool :=
  [u8L b, Nat.beq b.length lb, u8L ds, kept (bytesL ds == bytesL b), Nat.beq lb2 lb, Nat.beq lb3 lb, Nat.beq z 0, Nat.beq z2 0, Nat.beq l l1, Nat.beq i 0, isZ ns, Nat.beq ns.length l1, Nat.ble lb 200, Nat.ble l1 40]
def tMt : List AV × List Blk → Bool := fun x => match x.1 with
  | [.fsl a lb b, .ptr (some (0, 0)), .int .i64 (.ofNat z), .slice none 0 (some 0), .fsl a1 l1 ns, .int .i64 (.ofNat l), .int .i64 (.ofNat i)] => kept (noT lb (intsZ ns))
  | _ => false
def tMn : List AV × List Blk → Option (List Bool × AX × List AV × List Blk) := fun x => match x with
  | ([.fsl a lb b, .ptr (some (0, 0)), .int .i64 (.ofNat z), .slice none 0 (some 0), .fsl a1 l1 ns, .int .i64 (.ofNat l), .int .i64 (.ofNat i)], [.cells true 116 3 [.slice (some (1, 0)) lb2 none, .int .i64 (.ofNat z2), .slice none 0 (some 0)], .cells true 5 lb3 ds]) =>
    some (kept (noT lb (intsZ ns)) :: tMc lb b ds lb2 lb3 z z2 l l1 i ns, .normal, [.fsl a lb b, .ptr (some (0, 0)), .int .i64 (Int.ofNat 0), .slice none 0 (some 0), .fsl a1 l1 ns, .int .i64 (Int.ofNat l1), .int .i64 (Int.ofNat l1)],
      [.cells true 116 3 [.slice (some (1, 0)) lb none, .int .i64 (Int.ofNat 0), .slice none 0 (some 0)], .cells true 5 lb ds])
  | _ => none
def tMs : List AV × List Blk → Option (List Bool × AX × List AV × List Blk) := fun x => match x with
  | ([.fsl a lb b, .ptr (some (0, 0)), .int .i64 (.ofNat z), .slice none 0 (some 0), .fsl a1 l1 ns, .int .i64 (.ofNat l), .int .i64 (.ofNat i)], [.cells true 116 3 [.slice (some (1, 0)) lb2 none, .int .i64 (.ofNat z2), .slice none 0 (some 0)], .cells true 5 lb3 ds]) =>
    some (kept (!noT lb (intsZ ns)) :: tMc lb b ds lb2 lb3 z z2 l l1 i ns, .normal, [.fsl a lb b, .ptr (some (0, 0)), .int .i64 (Int.ofNat (kept (atT lb (intsZ ns)))), .slice (some (2, 0)) (kept (takesT lb (intsZ ns)).length) none, .fsl a1 l1 ns, .int .i64 (Int.ofNat l1), .int .i64 (Int.ofNat l1)],
      [.cells true 116 3 [.slice (some (1, 0)) lb none, .int .i64 (Int.ofNat (kept (atT lb (intsZ ns)))), .slice (some (3, 0)) (kept (takesT lb (intsZ ns)).length) none], .cells true 5 lb ds, .cells true 62 (kept (takesT lb (intsZ ns)).length * 3) (kept (encT (takesT lb (intsZ ns)))), .cells true 62 (kept (takesT lb (intsZ ns)).length * 3) (kept (encT (takesT lb (intsZ ns))))])
  | _ => none
def tM : ZLT := ⟨194, blockOf Try.f9 2, [0, 6, 9, 10, 57, 58, 59], 0, [], .node tMt (.leaf tMn) (.leaf tMs)⟩
theorem tkR_bound (lb : Nat) : ∀ (l : List Int) (i : Nat) (s : Nat × List TK), s.1 ≤ lb → (tkR lb i l s).1 ≤ lb ∧ (tkR lb i l s).2.length ≤ s.2.length + l.length := by
  intro l
  induction l with
  | nil => intro i s h; exact ⟨h, by simp [tkR]⟩
  | cons n l ih =>
    intro i s h
    have h1 : (tk1 lb i n s).1 ≤ lb ∧ (tk1 lb i n s).2.length ≤ s.2.length + 1 := by
      unfold tk1
      split
      · rename_i hc; exact ⟨by simp only; omega, by simp⟩
      · exact ⟨h, by omega⟩
    obtain ⟨h2, h3⟩ := ih (i + 1) (tk1 lb i n s) h1.1
    exact ⟨h2, by show (tkR lb (i + 1) l (tk1 lb i n s)).2.length ≤ _; simp only [List.length_cons]; omega⟩
theorem tkR_grow (lb : Nat) : ∀ (l : List Int) (i : Nat) (s : Nat × List TK), s.2 ≠ [] → (tkR lb i l s).2 ≠ [] := by
  intro l
  induction l with
  | nil => intro i s h; exact h
  | cons n l ih =>
    intro i s h
    refine ih (i + 1) (tk1 lb i n s) ?_
    unfold tk1
    split
    · simp
    · exact h
theorem tkR_none (lb : Nat) : ∀ (l : List Int) (i at_ : Nat), (tkR lb i l (at_, [])).2 = [] → (tkR lb i l (at_, [])).1 = at_ := by
  intro l
  induction l with
  | nil => intro i at_ _; rfl
  | cons n l ih =>
    intro i at_ h
    have h : (tkR lb (i + 1) l (tk1 lb i n (at_, []))).2 = [] := h
    show (tkR lb (i + 1) l (tk1 lb i n (at_, []))).1 = at_
    unfold tk1 at h ⊢
    split at h
    · exact absurd h (tkR_grow lb l (i + 1) _ (by simp))
    · rename_i hc
      rw [if_neg hc]
      exact ih (i + 1) at_ h
set_option maxHeartbeats 4000000 in
theorem tM_step (p : TM) (hp : p.ok) (L : ZLoop) (hL : L = tM.at tMn ∨ L = tM.at tMs) : (∃ p' : TM, p'.ok ∧ p'.fin = p.fin ∧ p'.zs.length - p'.i < p.zs.length - p.i ∧ CodeOK Try.prog (tyCx tys) L.nn 2 (roundOf (blockOf Try.f9 2)) (L.st p.enc) .normal (L.st p'.enc)) ∨
    (p.fin.1 ≠ .normal ∧ CodeOK Try.prog (tyCx tys) L.nn 2 (roundOf (blockOf Try.f9 2)) (L.st p.enc) p.fin.1 (L.st p.fin.2)) := by
  obtain ⟨a, bl, a1, zs, i, at_, ts⟩ := p
  obtain ⟨h1, h2, h3, h4, h5⟩ := hp
  simp only at h1 h2 h3 h4 h5
  have hst : ∀ x : ZSt, L.st x = ⟨frameOf 194 ([0, 6, 9, 10, 57, 58, 59].zip x.1), upTo 0, mkL x.2⟩ := by
    intro x; rcases hL with rfl | rfl <;> rfl
  have hnn : L.nn = 194 := by rcases hL with rfl | rfl <;> rfl
  simp only [hst, hnn]
  have pz := encZ_plainL zs
  have pb := ofBytes_plainL bl
  by_cases hlt : i < zs.length
  case neg =>
    have hi : i = zs.length := by omega
    subst hi
    have k0 : iltB (Int.ofNat zs.length) (Int.ofNat zs.length) = false := by rw [iltB_eq]; exact decide_eq_false (by show ¬ (zs.length : Int) < (zs.length : Int); omega)
    right
    refine ⟨by simp [TM.fin], ?_⟩
    simp only [TM.fin, TM.enc, List.drop_length, tkR]
    by_cases ht : ts = []
    · subst ht
      exact tt_eA a bl.length (ofBytes bl) at_ a1 zs.length (encZ zs) zs.length (ofBytes bl) k0 pb pz pb
    · rw [encM_some _ _ _ _ _ _ _ ht]
      exact tt_eB a bl.length (ofBytes bl) at_ a1 zs.length (encZ zs) zs.length (ofBytes bl) ts.length (encT ts) (encT ts) k0 pb pz pb (encT_plainL ts) (encT_plainL ts)
  left
  obtain ⟨n, hn⟩ : ∃ n, zs[i]? = some n := ⟨_, List.getElem?_eq_getElem hlt⟩
  have hdrop : zs.drop i = n :: zs.drop (i + 1) := by
    obtain ⟨hh, he⟩ := List.getElem?_eq_some_iff.1 hn
    rw [List.drop_eq_getElem_cons hh, he]
  have e1 : (listAt (List.drop i (encZ zs)) 0).getD AV.undef = .int .i64 n := by
    have := encZ_at zs i n hn
    rwa [show (Int.ofNat i).toNat * 1 = i from Nat.mul_one i] at this
  have k0 : iltB (Int.ofNat i) (Int.ofNat zs.length) = true := by rw [iltB_eq]; exact decide_eq_true (by show (i : Int) < (zs.length : Int); omega)
  have hw : wrapA .i64 ((Int.ofNat i).add (Int.ofNat 1)) = Int.ofNat (i + 1) := wrapA_nat .i64 (i + 1) (by show _ < 9223372036854775808; omega)
  have hs : wrapA .i64 ((Int.ofNat bl.length).sub (Int.ofNat at_)) = ((bl.length - at_ : Nat) : Int) := i64_sub bl.length at_ h4 (by omega)
  have z0 : (Int.ofNat i).toNat = i := rfl
  have ii : ∀ x : Int, ieqB x x = true := fun x => by rw [ieqB_eq]; exact beq_self_eq_true x
  by_cases hc : 0 ≤ n ∧ n ≤ ((bl.length - at_ : Nat) : Int)
  case neg =>
    refine ⟨⟨a, bl, a1, zs, i + 1, at_, ts⟩, ⟨by simp only; omega, h2, h3, h4, by simp only; omega⟩, ?_, by simp only; omega, ?_⟩
    · simp only [TM.fin, hdrop, tkR, tk1, if_neg hc]
    simp only [TM.enc]
    by_cases hneg : n < 0
    · have k1 : iltB n (Int.ofNat 0) = true := by rw [iltB_eq]; exact decide_eq_true hneg
      by_cases ht : ts = []
      · subst ht
        have key := tt_negA a bl.length (ofBytes bl) at_ a1 zs.length (encZ zs) i (ofBytes bl)
        iterate 11
          replace key := key (by
            (try simp only [AV.intOf, e1, Nat.zero_add, Nat.mul_one, z0, hs, hw, ii, k0, k1, Bool.not_true, Bool.not_false, kept_eq, bytesL_ofBytes, bytesOf_ofBytes, Option.getD_some])
            first
              | done
              | with_reducible rfl
              | with_reducible exact ofBytes_plainL _
              | with_reducible exact u8L_ofBytes _
              | with_reducible exact encZ_plainL _
              | with_reducible exact encT_plainL _
              | with_reducible exact room_of (by omega) (by omega)
              | (simp [e1, nbeq, nble, iltB_eq, ileB_eq, ieqB_eq, u8L_ofBytes, ofBytes_plainL, ofBytes_length, encZ_length, encT_length, encT_plainL, AV.isInt]; done)
              | (simp [e1, nbeq, nble, iltB_eq, ileB_eq, ieqB_eq, u8L_ofBytes, ofBytes_plainL, ofBytes_length, encZ_length, encT_length, encT_plainL, AV.isInt]; omega))
        simp only [AV.intOf, e1, Nat.zero_add, Nat.mul_one, z0, hs, hw, ii, k0, k1, Bool.not_true, Bool.not_false, kept_eq, bytesL_ofBytes, bytesOf_ofBytes, Option.getD_some] at key
        exact key
      · rw [encM_some _ _ _ _ _ _ _ ht, encM_some _ _ _ _ _ _ _ ht]
        have key := tt_negB a bl.length (ofBytes bl) at_ a1 zs.length (encZ zs) i (ofBytes bl) ts.length (encT ts) (encT ts)
        iterate 13
          replace key := key (by
            (try simp only [AV.intOf, e1, Nat.zero_add, Nat.mul_one, z0, hs, hw, ii, k0, k1, Bool.not_true, Bool.not_false, kept_eq, bytesL_ofBytes, bytesOf_ofBytes, Option.getD_some])
            first
              | done
              | with_reducible rfl
              | with_reducible exact ofBytes_plainL _
              | with_reducible exact u8L_ofBytes _
              | with_reducible exact encZ_plainL _
              | with_reducible exact encT_plainL _
              | with_reducible exact room_of (by omega) (by omega)
              | (simp [e1, nbeq, nble, iltB_eq, ileB_eq, ieqB_eq, u8L_ofBytes, ofBytes_plainL, ofBytes_length, encZ_length, encT_length, encT_plainL, AV.isInt]; done)
              | (simp [e1, nbeq, nble, iltB_eq, ileB_eq, ieqB_eq, u8L_ofBytes, ofBytes_plainL, ofBytes_length, encZ_length, encT_length, encT_plainL, AV.isInt]; omega))
        simp only [AV.intOf, e1, Nat.zero_add, Nat.mul_one, z0, hs, hw, ii, k0, k1, Bool.not_true, Bool.not_false, kept_eq, bytesL_ofBytes, bytesOf_ofBytes, Option.getD_some] at key
        exact key
    · have k1 : iltB n (Int.ofNat 0) = false := by rw [iltB_eq]; exact decide_eq_false hneg
      have k2 : iltB ((bl.length - at_ : Nat) : Int) n = true := by rw [iltB_eq]; exact decide_eq_true (by omega)
      by_cases ht : ts = []
      · subst ht
        have key := tt_bigA a bl.length (ofBytes bl) at_ a1 zs.length (encZ zs) i (ofBytes bl)
        iterate 13
          replace key := key (by
            (try simp only [AV.intOf, e1, Nat.zero_add, Nat.mul_one, z0, hs, hw, ii, k0, k1, Bool.not_true, Bool.not_false, kept_eq, bytesL_ofBytes, bytesOf_ofBytes, Option.getD_some, k2])
            first
              | done
              | with_reducible rfl
              | with_reducible exact ofBytes_plainL _
              | with_reducible exact u8L_ofBytes _
              | with_reducible exact encZ_plainL _
              | with_reducible exact encT_plainL _
              | with_reducible exact room_of (by omega) (by omega)
              | (simp [e1, nbeq, nble, iltB_eq, ileB_eq, ieqB_eq, u8L_ofBytes, ofBytes_plainL, ofBytes_length, encZ_length, encT_length, encT_plainL, AV.isInt]; done)
              | (simp [e1, nbeq, nble, iltB_eq, ileB_eq, ieqB_eq, u8L_ofBytes, ofBytes_plainL, ofBytes_length, encZ_length, encT_length, encT_plainL, AV.isInt]; omega))
        simp only [AV.intOf, e1, Nat.zero_add, Nat.mul_one, z0, hs, hw, ii, k0, k1, Bool.not_true, Bool.not_false, kept_eq, bytesL_ofBytes, bytesOf_ofBytes, Option.getD_some, k2] at key
        exact key
      · rw [encM_some _ _ _ _ _ _ _ ht, encM_some _ _ _ _ _ _ _ ht]
        have key := tt_bigB a bl.length (ofBytes bl) at_ a1 zs.length (encZ zs) i (ofBytes bl) ts.length (encT ts) (encT ts)
        iterate 15
          replace key := key (by
            (try simp only [AV.intOf, e1, Nat.zero_add, Nat.mul_one, z0, hs, hw, ii, k0, k1, Bool.not_true, Bool.not_false, kept_eq, bytesL_ofBytes, bytesOf_ofBytes, Option.getD_some, k2])
            first
              | done
              | with_reducible rfl
              | with_reducible exact ofBytes_plainL _
              | with_reducible exact u8L_ofBytes _
              | with_reducible exact encZ_plainL _
              | with_reducible exact encT_plainL _
              | with_reducible exact room_of (by omega) (by omega)
              | (simp [e1, nbeq, nble, iltB_eq, ileB_eq, ieqB_eq, u8L_ofBytes, ofBytes_plainL, ofBytes_length, encZ_length, encT_length, encT_plainL, AV.isInt]; done)
              | (simp [e1, nbeq, nble, iltB_eq, ileB_eq, ieqB_eq, u8L_ofBytes, ofBytes_plainL, ofBytes_length, encZ_length, encT_length, encT_plainL, AV.isInt]; omega))
        simp only [AV.intOf, e1, Nat.zero_add, Nat.mul_one, z0, hs, hw, ii, k0, k1, Bool.not_true, Bool.not_false, kept_eq, bytesL_ofBytes, bytesOf_ofBytes, Option.getD_some, k2] at key
        exact key
  obtain ⟨k, rfl⟩ : ∃ k : Nat, n = (k : Int) := ⟨n.toNat, by omega⟩
  have hk : k ≤ bl.length - at_ := by omega
  refine ⟨⟨a, bl, a1, zs, i + 1, at_ + k, ts ++ [(noteT i, Int.ofNat at_, (k : Int))]⟩, ⟨by simp only; omega, h2, h3, by simp only; omega, by simp only [List.length_append, List.length_cons, List.length_nil]; omega⟩, ?_, by simp only; omega, ?_⟩
  · simp only [TM.fin, hdrop, tkR, tk1, if_pos hc]; rfl
  simp only [TM.enc]
  have k1 : iltB (k : Int) (Int.ofNat 0) = false := by rw [iltB_eq]; exact decide_eq_false (by show ¬ (k : Int) < 0; omega)
  have k2 : iltB ((bl.length - at_ : Nat) : Int) (k : Int) = false := by rw [iltB_eq]; exact decide_eq_false (by omega)
  have ha : wrapA .i64 ((Int.ofNat at_).add (k : Int)) = Int.ofNat (at_ + k) := i64_add at_ k (by omega)
  have k3 : ileB (Int.ofNat 0) (Int.ofNat (at_ + k)) = true := by rw [ileB_eq]; exact decide_eq_true (by show (0 : Int) ≤ ((at_ + k : Nat) : Int); omega)
  have t1 : (Int.ofNat (at_ + k)).toNat = at_ + k := rfl
  have t2 : (Int.ofNat at_).toNat = at_ := rfl
  have t3 : at_ + k - at_ = k := by omega
  have hx : ((bl.drop at_).take k).length = k := by rw [List.length_take, List.length_drop]; omega
  have q1 : rowCut (ofBytes bl) at_ k = ofBytes ((bl.drop at_).take k) := rowCut_ofBytes bl at_ k
  have q2 : rowCut (ofBytes ((bl.drop at_).take k)) 0 k = ofBytes ((bl.drop at_).take k) := by rw [rowCut_ofBytes, List.drop_zero, List.take_of_length_le (by omega)]
  have hg : (goX k ((bl.drop at_).take k) 0).length = k := by rw [goX_length, hx]
  have hs2 : wrapA .i64 ((Int.ofNat bl.length).sub (Int.ofNat (at_ + k))) = ((bl.length - (at_ + k) : Nat) : Int) := i64_sub bl.length (at_ + k) (by omega) (by omega)
  have eq := bytesEq_refl
  by_cases ht : ts = []
  · subst ht
    have key := tt_okA a bl.length (ofBytes bl) at_ a1 zs.length (encZ zs) i (ofBytes bl)
    iterate 34
      replace key := key (by
        (try simp only [AV.intOf, e1, Nat.zero_add, Nat.mul_one, z0, hs, hw, ii, k0, k1, Bool.not_true, Bool.not_false, kept_eq, bytesL_ofBytes, bytesOf_ofBytes, Option.getD_some, k2, k3, ha, t1, t2, t3, q1, q2, hs2, eq])
        first
          | done
          | with_reducible rfl
          | with_reducible exact ofBytes_plainL _
          | with_reducible exact u8L_ofBytes _
          | with_reducible exact encZ_plainL _
          | with_reducible exact encT_plainL _
          | with_reducible exact room_of (by omega) (by omega)
          | (simp only [appRoom, decide_eq_true_eq]; omega)
          | (simp [e1, nbeq, nble, iltB_eq, ileB_eq, ieqB_eq, u8L_ofBytes, ofBytes_plainL, ofBytes_length, encZ_length, encT_length, encT_plainL, AV.isInt, hx, hg]; done)
          | (simp [e1, nbeq, nble, iltB_eq, ileB_eq, ieqB_eq, u8L_ofBytes, ofBytes_plainL, ofBytes_length, encZ_length, encT_length, encT_plainL, AV.isInt, hx, hg]; omega))
    simp only [AV.intOf, e1, Nat.zero_add, Nat.mul_one, z0, hs, hw, ii, k0, k1, Bool.not_true, Bool.not_false, kept_eq, bytesL_ofBytes, bytesOf_ofBytes, Option.getD_some, k2, k3, ha, t1, t2, t3, q1, q2, hs2, eq] at key
    exact key
  · rw [encM_some _ _ _ _ _ _ _ ht, encM_some _ _ _ _ _ _ _ (by simp)]
    have e2 : encT ts ++ [AV.str (noteT i), AV.int IntKind.i64 (Int.ofNat at_), AV.int IntKind.i64 (k : Int)] = encT (ts ++ [(noteT i, Int.ofNat at_, (k : Int))]) := by rw [encT_append]; rfl
    have e3 : (encT (ts ++ [(noteT i, Int.ofNat at_, (k : Int))])).length = (ts ++ [(noteT i, Int.ofNat at_, (k : Int))]).length * 3 := encT_length _
    have e4 : (ts ++ [(noteT i, Int.ofNat at_, (k : Int))]).length = ts.length + 1 := by simp
    have e5 := encT_plainL (ts ++ [(noteT i, Int.ofNat at_, (k : Int))])
    simp only [noteT] at e2 e3 e4 e5
    have e6 : appRoom 32 ts.length 1 = true := decide_eq_true (by omega)
    have key := tt_okB a bl.length (ofBytes bl) at_ a1 zs.length (encZ zs) i (ofBytes bl) ts.length (encT ts) (encT ts)
    iterate 40
      replace key := key (by
        (try simp only [AV.intOf, e1, Nat.zero_add, Nat.mul_one, z0, hs, hw, ii, k0, k1, Bool.not_true, Bool.not_false, kept_eq, bytesL_ofBytes, bytesOf_ofBytes, Option.getD_some, k2, k3, ha, t1, t2, t3, q1, q2, hs2, eq, e2, e3, e4, e5, e6])
        first
          | done
          | with_reducible rfl
          | with_reducible exact ofBytes_plainL _
          | with_reducible exact u8L_ofBytes _
          | with_reducible exact encZ_plainL _
          | with_reducible exact encT_plainL _
          | with_reducible exact room_of (by omega) (by omega)
          | (simp only [appRoom, decide_eq_true_eq]; omega)
          | (simp [e1, nbeq, nble, iltB_eq, ileB_eq, ieqB_eq, u8L_ofBytes, ofBytes_plainL, ofBytes_length, encZ_length, encT_length, encT_plainL, AV.isInt, hx, hg]; done)
          | (simp [e1, nbeq, nble, iltB_eq, ileB_eq, ieqB_eq, u8L_ofBytes, ofBytes_plainL, ofBytes_length, encZ_length, encT_length, encT_plainL, AV.isInt, hx, hg]; omega))
    simp only [AV.intOf, e1, Nat.zero_add, Nat.mul_one, z0, hs, hw, ii, k0, k1, Bool.not_true, Bool.not_false, kept_eq, bytesL_ofBytes, bytesOf_ofBytes, Option.getD_some, k2, k3, ha, t1, t2, t3, q1, q2, hs2, eq, e2, e3, e4, e5, e6] at key
    simp only [e4, noteT]
    exact key

theorem tM_ok : tM.OK Try.prog (tyCx tys) (flOf tys) 2 := by
  refine ⟨?_, ?_⟩
  · refine ZLoop.ok_by (L := tM.at tMn) (b := roundOf (blockOf Try.f9 2)) (by kernel_rfl) TM.enc TM.fin TM.ok (fun _ => 2) (fun p => p.zs.length - p.i) ?_ ?_
    · intro vs bs conds X vs' bs' h hc hin
      have h : tMn (vs, bs) = some (conds, X, vs', bs') := h
      unfold tMn at h
      split at h
      · rename_i a lb b z a1 l1 ns l i lb2 z2 lb3 ds he
        injection he with he1 he2
        subst he1; subst he2
        injection h with h; injection h with e1 h; injection h with e2 h; injection h with e3 e4
        subst e1; subst e2; subst e3; subst e4
        unfold tMc at hc
        simp only [allTrue_cons] at hc
        obtain ⟨c0, c1, c2, c3, c4, c5, c6, c7, c8, c9, c10, c11, c12, c13, c14, _⟩ := hc
        obtain ⟨bl, rfl⟩ := u8L_iff.1 c1
        obtain ⟨dl, rfl⟩ := u8L_iff.1 c3
        obtain ⟨zs, rfl⟩ := isZ_iff.1 c11
        rw [kept_eq, bytesL_ofBytes, bytesL_ofBytes] at c4
        have c4 : bl = dl := (eq_of_beq c4).symm
        have c2 := eq_of_beq' c2
        have c5 := eq_of_beq' c5
        have c6 := eq_of_beq' c6
        have c7 := eq_of_beq' c7
        have c8 := eq_of_beq' c8
        have c9 := eq_of_beq' c9
        have c10 := eq_of_beq' c10
        have c12 := eq_of_beq' c12
        rw [ofBytes_length] at c2
        rw [encZ_length] at c12
        subst c5; subst c7; subst c8; subst c9; subst c10; subst c4
        subst c12
        subst c2
        subst c6
        have c13 := Nat.le_of_ble_eq_true c13
        have c14 := Nat.le_of_ble_eq_true c14
        have hno : (takesT bl.length zs) = [] := by
          have c0 : noT bl.length zs = true := by rw [kept_eq, intsZ_encZ] at c0; exact c0
          unfold noT at c0
          simpa using c0
        have hat : atT bl.length zs = 0 := tkR_none bl.length zs 0 0 hno
        refine ⟨⟨a, bl, a1, zs, 0, 0, []⟩, ⟨Nat.zero_le _, c13, c14, Nat.zero_le _, Nat.le_refl _⟩, rfl, rfl, rfl, ?_⟩
        show _ = encM a bl a1 zs zs.length (tkR bl.length 0 (zs.drop 0) (0, [])).1 (tkR bl.length 0 (zs.drop 0) (0, [])).2
        have e1 : (tkR bl.length 0 (zs.drop 0) (0, [])).2 = [] := hno
        have e2 : (tkR bl.length 0 (zs.drop 0) (0, [])).1 = 0 := hat
        rw [e1, e2]; rfl
      · cases h
    · intro p hp
      rcases tM_step p hp _ (.inl rfl) with ⟨p', q1, q2, q3, q4⟩ | ⟨q1, q2⟩
      · exact .inl ⟨p', q1, rfl, q2, q3, q4⟩
      · exact .inr ⟨q1, q2⟩
  · refine ZLoop.ok_by (L := tM.at tMs) (b := roundOf (blockOf Try.f9 2)) (by kernel_rfl) TM.enc TM.fin TM.ok (fun _ => 2) (fun p => p.zs.length - p.i) ?_ ?_
    · intro vs bs conds X vs' bs' h hc hin
      have h : tMs (vs, bs) = some (conds, X, vs', bs') := h
      unfold tMs at h
      split at h
      · rename_i a lb b z a1 l1 ns l i lb2 z2 lb3 ds he
        injection he with he1 he2
        subst he1; subst he2
        injection h with h; injection h with e1 h; injection h with e2 h; injection h with e3 e4
        subst e1; subst e2; subst e3; subst e4
        unfold tMc at hc
        simp only [allTrue_cons] at hc
        obtain ⟨c0, c1, c2, c3, c4, c5, c6, c7, c8, c9, c10, c11, c12, c13, c14, _⟩ := hc
        obtain ⟨bl, rfl⟩ := u8L_iff.1 c1
        obtain ⟨dl, rfl⟩ := u8L_iff.1 c3
        obtain ⟨zs, rfl⟩ := isZ_iff.1 c11
        rw [kept_eq, bytesL_ofBytes, bytesL_ofBytes] at c4
        have c4 : bl = dl := (eq_of_beq c4).symm
        have c2 := eq_of_beq' c2
        have c5 := eq_of_beq' c5
        have c6 := eq_of_beq' c6
        have c7 := eq_of_beq' c7
        have c8 := eq_of_beq' c8
        have c9 := eq_of_beq' c9
        have c10 := eq_of_beq' c10
        have c12 := eq_of_beq' c12
        rw [ofBytes_length] at c2
        rw [encZ_length] at c12
        subst c5; subst c7; subst c8; subst c9; subst c10; subst c4
        subst c12
        subst c2
        subst c6
        have c13 := Nat.le_of_ble_eq_true c13
        have c14 := Nat.le_of_ble_eq_true c14
        have hno : (takesT bl.length zs) ≠ [] := by
          have c0 : noT bl.length zs = false := by rw [kept_eq, intsZ_encZ] at c0; simpa using c0
          unfold noT at c0
          intro e; rw [e] at c0; cases c0
        refine ⟨⟨a, bl, a1, zs, 0, 0, []⟩, ⟨Nat.zero_le _, c13, c14, Nat.zero_le _, Nat.le_refl _⟩, rfl, rfl, rfl, ?_⟩
        show _ = encM a bl a1 zs zs.length (atT bl.length zs) (takesT bl.length zs)
        rw [encM_some _ _ _ _ _ _ _ hno]
        simp only [kept_eq, intsZ_encZ]
      · cases h
    · intro p hp
      rcases tM_step p hp _ (.inr rfl) with ⟨p', q1, q2, q3, q4⟩ | ⟨q1, q2⟩
      · exact .inl ⟨p', q1, rfl, q2, q3, q4⟩
      · exact .inr ⟨q1, q2⟩
end Go.Proofs.Ytecncappdnhbaaa
end
end

/- TapeTakes: the loop over what was taken; the loop that holds it against what is wanted. -/
section
set_option autoImplicit false
set_option linter.unusedVariables false
set_option linter.unusedSimpArgs false
set_option maxRecDepth 100000
noncomputable section
namespace Go.Proofs.Ytecncappdnhbaaa
open Go.Ab.M Go.Ab Go
theorem cm_r (n : Nat) (i : Nat) (cs : List AV) (ds : List AV) (h0 : (iltB (Int.ofNat i) (Int.ofNat n)) = true) (h1 : ((Int.ofNat i).toNat.succ.ble n) = true) (h2 : ((0 + (Int.ofNat i).toNat * 3 + 3).ble (n * 3)) = true) (h3 : ((0 + (Int.ofNat i).toNat * 3).succ.ble cs.length) = true) (h4 : (((listAt cs (0 + (Int.ofNat i).toNat * 3)).getD AV.undef).isStr) = true) (h5 : ((0 + (Int.ofNat i).toNat * 3 + 1).succ.ble cs.length) = true) (h6 : (AV.isInt IntKind.i64 ((listAt cs (0 + (Int.ofNat i).toNat * 3 + 1)).getD AV.undef)) = true) (h7 : ((0 + (Int.ofNat i).toNat * 3 + 1 + 1).succ.ble cs.length) = true) (h8 : (AV.isInt IntKind.i64 ((listAt cs (0 + (Int.ofNat i).toNat * 3 + 1 + 1)).getD AV.undef)) = true) (h9 : ((0 + (Int.ofNat i).toNat * 3).succ.ble ds.length) = true) (h10 : (((listAt ds (0 + (Int.ofNat i).toNat * 3)).getD AV.undef).isStr) = true) (h11 : ((0 + (Int.ofNat i).toNat * 3 + 1).succ.ble ds.length) = true) (h12 : (AV.isInt IntKind.i64 ((listAt ds (0 + (Int.ofNat i).toNat * 3 + 1)).getD AV.undef)) = true) (h13 : ((0 + (Int.ofNat i).toNat * 3 + 1 + 1).succ.ble ds.length) = true) (h14 : (AV.isInt IntKind.i64 ((listAt ds (0 + (Int.ofNat i).toNat * 3 + 1 + 1)).getD AV.undef)) = true) (h15 : (!(bytesEq (AV.str ((listAt cs (0 + (Int.ofNat i).toNat * 3)).getD AV.undef).strOf).strOf (AV.str ((listAt ds (0 + (Int.ofNat i).toNat * 3)).getD AV.undef).strOf).strOf && (ieqB (AV.int IntKind.i64 ((listAt cs (0 + (Int.ofNat i).toNat * 3 + 1)).getD AV.undef).intOf).intOf (AV.int IntKind.i64 ((listAt ds (0 + (Int.ofNat i).toNat * 3 + 1)).getD AV.undef).intOf).intOf && (ieqB (AV.int IntKind.i64 ((listAt cs (0 + (Int.ofNat i).toNat * 3 + 1 + 1)).getD AV.undef).intOf).intOf (AV.int IntKind.i64 ((listAt ds (0 + (Int.ofNat i).toNat * 3 + 1 + 1)).getD AV.undef).intOf).intOf && true)))) = false) (h16 : (AV.plainL cs) = true) (h17 : (AV.plainL ds) = true) :
    CodeOK Try.prog (tyCx tys) 194 2 (roundOf (blockOf Try.f9 7)) { fr := frameOf 194 ([17, 10, 160, 161].zip [AV.slice (some (0, 0)) n none, AV.slice (some (1, 0)) n none, AV.int IntKind.i64 (Int.ofNat n), AV.int IntKind.i64 (Int.ofNat i)]), ds := upTo 0, H := mkL [Blk.cells true 62 (n * 3) cs, Blk.cells true 62 (n * 3) ds] } (AX.normal) ⟨frameOf 194 ([17, 10, 160, 161].zip [AV.slice (some (0, 0)) n none, AV.slice (some (1, 0)) n none, AV.int IntKind.i64 (Int.ofNat n), AV.int IntKind.i64 (wrapA IntKind.i64 ((Int.ofNat i).add (Int.ofNat 1)))]), upTo 0, mkL [Blk.cells true 62 (n * 3) cs, Blk.cells true 62 (n * 3) ds]⟩ :=
  zrows_run (g := 30) (k := 9) (f := 30) (sl := [17, 10, 160, 161]) (ks := [0, 1]) (rs := []) (ds := []) (cxZ cx_goes) all8c (q := (.y :: (oc 1 (.y :: (.y :: (.y :: (.y :: (.y :: (.y :: (.y :: (.y :: (oc 1 (.y :: (.y :: (.y :: (.y :: (.y :: (.y :: (.y :: (.y :: (oc 12 (.z :: [])))))))))))))))))))))) (c := (Cnd.tst _ true :: Cnd.tst _ true :: Cnd.tst _ true :: Cnd.tst _ true :: Cnd.tst _ true :: Cnd.tst _ true :: Cnd.tst _ true :: Cnd.tst _ true :: Cnd.tst _ true :: Cnd.tst _ true :: Cnd.tst _ true :: Cnd.tst _ true :: Cnd.tst _ true :: Cnd.tst _ true :: Cnd.tst _ true :: Cnd.tst _ true :: Cnd.tst _ true :: Cnd.tst _ false :: [])) (cq := [true, true, true, AV.plainL cs, true, AV.plainL ds]) (by kernel_rfl) ⟨h0, h1, h2, h3, h4, h5, h6, h7, h8, h1, h2, h9, h10, h11, h12, h13, h14, h15, trivial⟩ (holdsB ⟨rfl, rfl, rfl, h16, rfl, h17, trivial⟩) (by kernel_rfl) (by kernel_rfl) (by kernel_rfl) (by kernel_rfl) (by kernel_rfl)
theorem cm_e (n : Nat) (i : Nat) (cs : List AV) (ds : List AV) (h0 : (iltB (Int.ofNat i) (Int.ofNat n)) = false) (h1 : (AV.plainL cs) = true) (h2 : (AV.plainL ds) = true) :
    CodeOK Try.prog (tyCx tys) 194 2 (roundOf (blockOf Try.f9 7)) { fr := frameOf 194 ([17, 10, 160, 161].zip [AV.slice (some (0, 0)) n none, AV.slice (some (1, 0)) n none, AV.int IntKind.i64 (Int.ofNat n), AV.int IntKind.i64 (Int.ofNat i)]), ds := upTo 0, H := mkL [Blk.cells true 62 (n * 3) cs, Blk.cells true 62 (n * 3) ds] } (AX.exit 7) ⟨frameOf 194 ([17, 10, 160, 161].zip [AV.slice (some (0, 0)) n none, AV.slice (some (1, 0)) n none, AV.int IntKind.i64 (Int.ofNat n), AV.int IntKind.i64 (Int.ofNat i)]), upTo 0, mkL [Blk.cells true 62 (n * 3) cs, Blk.cells true 62 (n * 3) ds]⟩ :=
  zrows_run (g := 30) (k := 9) (f := 30) (sl := [17, 10, 160, 161]) (ks := [0, 1]) (rs := []) (ds := []) (cxZ cx_goes) all8c (q := (.z :: [])) (c := (Cnd.tst _ false :: [])) (cq := [true, true, true, AV.plainL cs, true, AV.plainL ds]) (by kernel_rfl) ⟨h0, trivial⟩ (holdsB ⟨rfl, rfl, rfl, h1, rfl, h2, trivial⟩) (by kernel_rfl) (by kernel_rfl) (by kernel_rfl) (by kernel_rfl) (by kernel_rfl)
theorem cm_n (u : Int) :
    CodeOK Try.prog (tyCx tys) 194 0 (roundOf (blockOf Try.f9 7)) { fr := frameOf 194 ([17, 10, 160, 161].zip [AV.slice none 0 (some 0), AV.slice none 0 (some 0), AV.int IntKind.i64 (Int.ofNat 0), AV.int IntKind.i64 (Int.ofNat 0)]), ds := upTo 0, H := mkL [] } (AX.exit 7) ⟨frameOf 194 ([17, 10, 160, 161].zip [AV.slice none 0 (some 0), AV.slice none 0 (some 0), AV.int IntKind.i64 (Int.ofNat 0), AV.int IntKind.i64 (Int.ofNat 0)]), upTo 0, mkL []⟩ :=
  zrows_run (g := 30) (k := 9) (f := 30) (sl := [17, 10, 160, 161]) (ks := []) (rs := []) (ds := []) (cxZ cx_goes) all8c (q := (oc 1 [])) (c := ([])) (cq := []) (by kernel_rfl) trivial (holdsB trivial) (by kernel_rfl) (by kernel_rfl) (by kernel_rfl) (by kernel_rfl) (by kernel_rfl)
theorem it_n (u : Int) :
    CodeOK Try.prog (tyCx tys) 16 3 (roundOf (blockOf Try.f102 0)) { fr := frameOf 16 ([0, 5, 6, 7].zip [AV.yield 0, AV.slice none 0 (some 0), AV.int IntKind.i64 (Int.ofNat 0), AV.int IntKind.i64 (Int.ofNat 0)]), ds := upTo 0, H := mkL [Blk.loop 38 12 (frameOf 12 [(3, AV.ptr (some (2, 0)))]) (rps Try.f38) (rasg Try.f38) (rbody Try.f38) 1 LS.ready, Blk.dfr, Blk.cells true 58 1 [AV.slice none 0 (some 0)]] } (AX.exit 0) ⟨frameOf 16 ([0, 5, 6, 7].zip [AV.yield 0, AV.slice none 0 (some 0), AV.int IntKind.i64 (Int.ofNat 0), AV.int IntKind.i64 (Int.ofNat 0)]), upTo 0, mkL [Blk.loop 38 12 (frameOf 12 [(3, AV.ptr (some (2, 0)))]) (rps Try.f38) (rasg Try.f38) (rbody Try.f38) 1 (LS.ready), Blk.dfr, Blk.cells true 58 1 [AV.slice none 0 (some 0)]]⟩ :=
  zrows_run (g := 30) (k := 102) (f := 30) (sl := [0, 5, 6, 7]) (ks := [0, 1, 2]) (rs := [3]) (ds := []) (cxZ cx_goes) all8c (q := (oc 1 [])) (c := ([])) (cq := [true, true, true, true]) (by kernel_rfl) trivial (holdsB ⟨rfl, rfl, rfl, rfl, trivial⟩) (by kernel_rfl) (by kernel_rfl) (by kernel_rfl) (by kernel_rfl) (by kernel_rfl)
theorem encT_atI (ts : List TK) (i : Nat) (x : TK) (h : ts[i]? = some x) : (listAt (encT ts) (i * 3)).getD AV.undef = .str x.1 ∧ (listAt (encT ts) (i * 3 + 1)).getD AV.undef = .int .i64 x.2.1 ∧ (listAt (encT ts) (i * 3 + 1 + 1)).getD AV.undef = .int .i64 x.2.2 := by
  obtain ⟨h1, h2, h3⟩ := encT_at ts i x h
  rw [h1, h2, h3]; exact ⟨rfl, rfl, rfl⟩
def itOut (ts : List TK) (i : Nat) : List Blk := match i with
  | 0 => [.cells true 58 1 [.slice none 0 (some 0)]]
  | j + 1 => [.cells true 58 1 [.slice (some (4, 0)) (j + 1) none], .cells true 62 ((j + 1) * 3) (encT (ts.take (j + 1)))]
def itE (ts : List TK) (i : Nat) : ZSt := ([.yield 0, .slice (some (1, 0)) ts.length none, .int .i64 (Int.ofNat ts.length), .int .i64 (Int.ofNat i)], .loop 38 12 (frameOf 12 [(3, .ptr (some (3, 0)))]) (rps Try.f38) (rasg Try.f38) (rbody Try.f38) 2 .ready :: .cells true 62 (ts.length * 3) (encT ts) :: .dfr :: itOut ts i)
def itL : ZLoop := ⟨16, blockOf Try.f102 0, [0, 5, 6, 7], 0, [3], fun vs bs => match vs, bs with
  | [.yield 0, .slice (some (1, 0)) n none, .int .i64 (.ofNat m), .int .i64 (.ofNat i)], [.loop 38 12 fr ps asg body 2 .ready, .cells true 62 k cs, .dfr, .cells true 58 1 [.slice none 0 (some 0)]] =>
    some ([same fr (frameOf 12 [(3, .ptr (some (3, 0)))]), same ps (rps Try.f38), same asg (rasg Try.f38), same body (rbody Try.f38), isT cs, Nat.beq cs.length (n * 3), Nat.beq k (n * 3), Nat.beq m n, Nat.beq i 0, Nat.ble 1 n, Nat.ble n 1000], .normal,
      [.yield 0, .slice (some (1, 0)) n none, .int .i64 (Int.ofNat n), .int .i64 (Int.ofNat n)], [.loop 38 12 (frameOf 12 [(3, .ptr (some (3, 0)))]) (rps Try.f38) (rasg Try.f38) (rbody Try.f38) 2 .ready, .cells true 62 (n * 3) cs, .dfr, .cells true 58 1 [.slice (some (4, 0)) n none], .cells true 62 (n * 3) cs])
  | [.yield 0, .slice none 0 (some 0), .int .i64 (.ofNat m), .int .i64 (.ofNat i)], [.loop 38 12 fr ps asg body 1 .ready, .dfr, .cells true 58 1 [.slice none 0 (some 0)]] =>
    some ([same fr (frameOf 12 [(3, .ptr (some (2, 0)))]), same ps (rps Try.f38), same asg (rasg Try.f38), same body (rbody Try.f38), Nat.beq m 0, Nat.beq i 0], .normal,
      [.yield 0, .slice none 0 (some 0), .int .i64 (Int.ofNat 0), .int .i64 (Int.ofNat 0)], [.loop 38 12 (frameOf 12 [(3, .ptr (some (2, 0)))]) (rps Try.f38) (rasg Try.f38) (rbody Try.f38) 1 .ready, .dfr, .cells true 58 1 [.slice none 0 (some 0)]])
  | _, _ => none⟩
theorem itL_ok : itL.OK Try.prog (tyCx tys) (flOf tys) 0 := by
  intro vs bs conds X vs' bs' h hc hin
  simp only [itL] at h
  split at h
  · rename_i n m i fr ps asg body k cs
    injection h with h; injection h with e1 h; injection h with e2 h; injection h with e3 e4
    subst e1; subst e2; subst e3; subst e4
    simp only [allTrue_cons, same_eq] at hc
    obtain ⟨r1, r2, r3, r4, c1, c2, c3, c4, c5, c6, c7, _⟩ := hc
    subst r1; subst r2; subst r3; subst r4
    obtain ⟨ts, rfl⟩ := isT_iff.1 c1
    have c2 := eq_of_beq' c2
    have c3 := eq_of_beq' c3
    have c4 := eq_of_beq' c4
    have c5 := eq_of_beq' c5
    rw [encT_length] at c2
    have c2 : ts.length = n := by omega
    subst c3; subst c4; subst c5
    subst c2
    have c6 := Nat.le_of_ble_eq_true c6
    have c7 := Nat.le_of_ble_eq_true c7
    have key := CodeOK.loop (P := Try.prog) (cx := tyCx tys) (nn := 16) (n0 := 4) (b := roundOf (blockOf Try.f102 0)) (fun q : {i : Nat // i ≤ ts.length} => itL.st (itE ts q.1)) (fun q => (.exit 0, itL.st (itE ts ts.length))) (fun q => ts.length - q.1) (fun q => by
      obtain ⟨i, hi⟩ := q
      simp only
      by_cases hlt : i < ts.length
      · refine .inl ⟨⟨i + 1, hlt⟩, ?_, trivial, by simp only; omega⟩
        obtain ⟨x, hx⟩ : ∃ x, ts[i]? = some x := ⟨_, List.getElem?_eq_getElem hlt⟩
        obtain ⟨x1, x2, x3⟩ := encT_atI ts i x hx
        have el := encT_length ts
        have k0 : iltB (Int.ofNat i) (Int.ofNat ts.length) = true := by rw [iltB_eq]; exact decide_eq_true (by show (i : Int) < (ts.length : Int); omega)
        have hw : wrapA .i64 ((Int.ofNat i).add (Int.ofNat 1)) = Int.ofNat (i + 1) := wrapA_nat .i64 (i + 1) (by show _ < 9223372036854775808; omega)
        have z0 : (Int.ofNat i).toNat = i := rfl
        have tk : ts.take (i + 1) = ts.take i ++ [x] := by rw [List.take_add_one, hx]; rfl
        cases i with
        | zero =>
          have key := it_r0 ts.length 0 (encT ts)
          iterate 10
            replace key := key (by
              (try simp only [AV.intOf, AV.strOf, Nat.zero_add, Nat.zero_mul, Nat.mul_one, z0, hw, k0, x1, x2, x3, Bool.not_true, Bool.not_false])
              first
                | done
                | with_reducible rfl
                | with_reducible exact encT_plainL _
                | (simp [nbeq, nble, el, x1, x2, x3, AV.isInt, AV.isStr]; done)
                | (simp [nbeq, nble, el, x1, x2, x3, AV.isInt, AV.isStr]; omega))
          simp only [AV.intOf, AV.strOf, Nat.zero_add, Nat.zero_mul, Nat.mul_one, z0, hw, k0, x1, x2, x3, Bool.not_true, Bool.not_false] at key
          have e : encT (ts.take 1) = [AV.str x.1, AV.int .i64 x.2.1, AV.int .i64 x.2.2] := by rw [tk]; rfl
          show CodeOK _ _ _ _ _ _ _ (itL.st ([.yield 0, .slice (some (1, 0)) ts.length none, .int .i64 (Int.ofNat ts.length), .int .i64 (Int.ofNat 1)], .loop 38 12 (frameOf 12 [(3, .ptr (some (3, 0)))]) (rps Try.f38) (rasg Try.f38) (rbody Try.f38) 2 .ready :: .cells true 62 (ts.length * 3) (encT ts) :: .dfr :: [.cells true 58 1 [.slice (some (4, 0)) (0 + 1) none], .cells true 62 ((0 + 1) * 3) (encT (ts.take 1))]))
          rw [e]
          exact key
        | succ j =>
          have lt : (ts.take (j + 1)).length = j + 1 := by rw [List.length_take]; omega
          have e2 : encT (ts.take (j + 1)) ++ [AV.str x.1, AV.int .i64 x.2.1, AV.int .i64 x.2.2] = encT (ts.take (j + 1 + 1)) := by rw [tk, encT_append]; rfl
          have e3 : (encT (ts.take (j + 1 + 1))).length = (j + 1 + 1) * 3 := by rw [encT_length, List.length_take]; congr 1; omega
          have e4 : (encT (ts.take (j + 1))).length = (j + 1) * 3 := by rw [encT_length, lt]
          have e5 := encT_plainL (ts.take (j + 1 + 1))
          have e6 : appRoom 32 (j + 1) 1 = true := decide_eq_true (by omega)
          have key := it_r1 ts.length (j + 1) (encT ts) (encT (ts.take (j + 1)))
          iterate 13
            replace key := key (by
              (try simp only [AV.intOf, AV.strOf, Nat.zero_add, Nat.mul_one, z0, hw, k0, x1, x2, x3, Bool.not_true, Bool.not_false, e2, e3, e4, e5, e6])
              first
                | done
                | with_reducible rfl
                | with_reducible exact encT_plainL _
                | (simp [nbeq, nble, el, x1, x2, x3, AV.isInt, AV.isStr, e2, e3, e4, e5, e6]; done)
                | (simp [nbeq, nble, el, x1, x2, x3, AV.isInt, AV.isStr, e2, e3, e4, e5, e6]; omega))
          simp only [AV.intOf, AV.strOf, Nat.zero_add, Nat.mul_one, z0, hw, k0, x1, x2, x3, Bool.not_true, Bool.not_false, e2, e3, e4, e5, e6] at key
          exact key
      · have hi : i = ts.length := by omega
        subst hi
        refine .inr ⟨?_, by simp⟩
        have k0 : iltB (Int.ofNat ts.length) (Int.ofNat ts.length) = false := by rw [iltB_eq]; exact decide_eq_false (by show ¬ (ts.length : Int) < (ts.length : Int); omega)
        obtain ⟨j, hj⟩ : ∃ j, ts.length = j + 1 := ⟨ts.length - 1, by omega⟩
        have key := it_e1 ts.length ts.length (encT ts) (encT (ts.take ts.length)) k0 (encT_plainL _) (encT_plainL _)
        have e : itOut ts ts.length = [.cells true 58 1 [.slice (some (4, 0)) ts.length none], .cells true 62 (ts.length * 3) (encT (ts.take ts.length))] := by rw [hj]; rfl
        unfold itE
        rw [e]
        exact key) ⟨0, Nat.zero_le _⟩
    have e : itOut ts ts.length = [.cells true 58 1 [.slice (some (4, 0)) ts.length none], .cells true 62 (ts.length * 3) (encT ts)] := by
      obtain ⟨j, hj⟩ : ∃ j, ts.length = j + 1 := ⟨ts.length - 1, by omega⟩
      have : itOut ts (j + 1) = [.cells true 58 1 [.slice (some (4, 0)) (j + 1) none], .cells true 62 ((j + 1) * 3) (encT (ts.take (j + 1)))] := rfl
      rw [hj, this, ← hj, List.take_length]
    simp only [itE, e] at key
    exact CodeOK.block 0 key
  · rename_i m i fr ps asg body
    injection h with h; injection h with e1 h; injection h with e2 h; injection h with e3 e4
    subst e1; subst e2; subst e3; subst e4
    simp only [allTrue_cons, same_eq] at hc
    obtain ⟨r1, r2, r3, r4, c1, c2, _⟩ := hc
    subst r1; subst r2; subst r3; subst r4
    have c1 := eq_of_beq' c1
    have c2 := eq_of_beq' c2
    subst c1; subst c2
    have key := CodeOK.loop (P := Try.prog) (cx := tyCx tys) (nn := 16) (n0 := 3) (b := roundOf (blockOf Try.f102 0)) (fun _ : Unit => itL.st ([.yield 0, .slice none 0 (some 0), .int .i64 (Int.ofNat 0), .int .i64 (Int.ofNat 0)], [.loop 38 12 (frameOf 12 [(3, .ptr (some (2, 0)))]) (rps Try.f38) (rasg Try.f38) (rbody Try.f38) 1 .ready, .dfr, .cells true 58 1 [.slice none 0 (some 0)]]))
      (fun _ => (.exit 0, itL.st ([.yield 0, .slice none 0 (some 0), .int .i64 (Int.ofNat 0), .int .i64 (Int.ofNat 0)], [.loop 38 12 (frameOf 12 [(3, .ptr (some (2, 0)))]) (rps Try.f38) (rasg Try.f38) (rbody Try.f38) 1 .ready, .dfr, .cells true 58 1 [.slice none 0 (some 0)]]))) (fun _ => 0) (fun _ => .inr ⟨it_n 0, by simp⟩) ()
    exact CodeOK.block 0 key
  · cases h
def cmL : ZLoop := ⟨194, blockOf Try.f9 7, [17, 10, 160, 161], 0, [], fun vs bs => match vs, bs with
  | [.slice (some (0, 0)) n none, .slice (some (1, 0)) n2 none, .int .i64 (.ofNat m), .int .i64 (.ofNat i)], [.cells true 62 k cs, .cells true 62 k2 ds] =>
    some ([isT cs, isT ds, kept (decT cs == decT ds), Nat.beq cs.length (n * 3), Nat.beq k (n * 3), Nat.beq k2 (n * 3), Nat.beq n2 n, Nat.beq m n, Nat.beq i 0, Nat.ble n 1000], .normal, [.slice (some (0, 0)) n none, .slice (some (1, 0)) n none, .int .i64 (Int.ofNat n), .int .i64 (Int.ofNat n)], [.cells true 62 (n * 3) cs, .cells true 62 (n * 3) ds])
  | [.slice none 0 (some 0), .slice none 0 (some 0), .int .i64 (.ofNat m), .int .i64 (.ofNat i)], [] => some ([Nat.beq m 0, Nat.beq i 0], .normal, [.slice none 0 (some 0), .slice none 0 (some 0), .int .i64 (Int.ofNat 0), .int .i64 (Int.ofNat 0)], [])
  | _, _ => none⟩
theorem cmL_ok : cmL.OK Try.prog (tyCx tys) (flOf tys) 7 := by
  intro vs bs conds X vs' bs' h hc hin
  simp only [cmL] at h
  split at h
  · rename_i n n2 m i k cs k2 ds
    injection h with h; injection h with e1 h; injection h with e2 h; injection h with e3 e4
    subst e1; subst e2; subst e3; subst e4
    simp only [allTrue_cons] at hc
    obtain ⟨c1, c0, cq, c2, c3, c8, c9, c4, c5, c7, _⟩ := hc
    obtain ⟨ts, rfl⟩ := isT_iff.1 c1
    obtain ⟨us, rfl⟩ := isT_iff.1 c0
    rw [kept_eq, decT_encT, decT_encT] at cq
    have cq : us = ts := (eq_of_beq cq).symm
    subst cq
    have c2 := eq_of_beq' c2
    have c3 := eq_of_beq' c3
    have c8 := eq_of_beq' c8
    have c9 := eq_of_beq' c9
    have c4 := eq_of_beq' c4
    have c5 := eq_of_beq' c5
    rw [encT_length] at c2
    have c2 : us.length = n := by omega
    subst c3; subst c8; subst c9; subst c4; subst c5
    subst c2
    have c7 := Nat.le_of_ble_eq_true c7
    have key := CodeOK.loop (P := Try.prog) (cx := tyCx tys) (nn := 194) (n0 := 2) (b := roundOf (blockOf Try.f9 7)) (fun q : {i : Nat // i ≤ us.length} => cmL.st ([.slice (some (0, 0)) us.length none, .slice (some (1, 0)) us.length none, .int .i64 (Int.ofNat us.length), .int .i64 (Int.ofNat q.1)], [.cells true 62 (us.length * 3) (encT us), .cells true 62 (us.length * 3) (encT us)]))
      (fun q => (.exit 7, cmL.st ([.slice (some (0, 0)) us.length none, .slice (some (1, 0)) us.length none, .int .i64 (Int.ofNat us.length), .int .i64 (Int.ofNat us.length)], [.cells true 62 (us.length * 3) (encT us), .cells true 62 (us.length * 3) (encT us)]))) (fun q => us.length - q.1) (fun q => by
      obtain ⟨i, hi⟩ := q
      simp only
      by_cases hlt : i < us.length
      · refine .inl ⟨⟨i + 1, hlt⟩, ?_, trivial, by simp only; omega⟩
        obtain ⟨x, hx⟩ : ∃ x, us[i]? = some x := ⟨_, List.getElem?_eq_getElem hlt⟩
        obtain ⟨x1, x2, x3⟩ := encT_atI us i x hx
        have el := encT_length us
        have k0 : iltB (Int.ofNat i) (Int.ofNat us.length) = true := by rw [iltB_eq]; exact decide_eq_true (by show (i : Int) < (us.length : Int); omega)
        have hw : wrapA .i64 ((Int.ofNat i).add (Int.ofNat 1)) = Int.ofNat (i + 1) := wrapA_nat .i64 (i + 1) (by show _ < 9223372036854775808; omega)
        have z0 : (Int.ofNat i).toNat = i := rfl
        have eq := bytesEq_refl
        have ii : ∀ x : Int, ieqB x x = true := fun x => by rw [ieqB_eq]; exact beq_self_eq_true x
        have key := cm_r us.length i (encT us) (encT us)
        iterate 18
          replace key := key (by
            (try simp only [AV.intOf, AV.strOf, Nat.zero_add, Nat.mul_one, z0, hw, k0, x1, x2, x3, Bool.not_true, Bool.not_false, eq, ii, Bool.and_self, Bool.and_true])
            first
              | done
              | with_reducible rfl
              | with_reducible exact encT_plainL _
              | (simp [nbeq, nble, el, x1, x2, x3, AV.isInt, AV.isStr, eq, ii, Bool.and_self, Bool.and_true]; done)
              | (simp [nbeq, nble, el, x1, x2, x3, AV.isInt, AV.isStr, eq, ii, Bool.and_self, Bool.and_true]; omega))
        simp only [AV.intOf, AV.strOf, Nat.zero_add, Nat.mul_one, z0, hw, k0, x1, x2, x3, Bool.not_true, Bool.not_false, eq, ii, Bool.and_self, Bool.and_true] at key
        exact key
      · have hi : i = us.length := by omega
        subst hi
        refine .inr ⟨?_, by simp⟩
        have k0 : iltB (Int.ofNat us.length) (Int.ofNat us.length) = false := by rw [iltB_eq]; exact decide_eq_false (by show ¬ (us.length : Int) < (us.length : Int); omega)
        exact cm_e us.length us.length (encT us) (encT us) k0 (encT_plainL _) (encT_plainL _)) ⟨0, Nat.zero_le _⟩
    exact CodeOK.block 7 key
  · rename_i m i
    injection h with h; injection h with e1 h; injection h with e2 h; injection h with e3 e4
    subst e1; subst e2; subst e3; subst e4
    simp only [allTrue_cons] at hc
    obtain ⟨c1, c2, _⟩ := hc
    have c1 := eq_of_beq' c1
    have c2 := eq_of_beq' c2
    subst c1; subst c2
    have key := CodeOK.loop (P := Try.prog) (cx := tyCx tys) (nn := 194) (n0 := 0) (b := roundOf (blockOf Try.f9 7)) (fun _ : Unit => cmL.st ([.slice none 0 (some 0), .slice none 0 (some 0), .int .i64 (Int.ofNat 0), .int .i64 (Int.ofNat 0)], []))
      (fun _ => (.exit 7, cmL.st ([.slice none 0 (some 0), .slice none 0 (some 0), .int .i64 (Int.ofNat 0), .int .i64 (Int.ofNat 0)], []))) (fun _ => 0) (fun _ => .inr ⟨cm_n 0, by simp⟩) ()
    exact CodeOK.block 7 key
  · cases h
def K8e : Known := { t := [(67, cloneR.rt), (20, (RSum.const (.bool true)).rt)], l := [((9, 0), tL0.lt), ((9, 2), tM), ((102, 0), itL.lt), ((9, 7), cmL.lt)] }
theorem K8e_ok : KOK Try.prog tys K8e := ⟨⟨RSum.rt_sound cloneR_ok, RSum.rt_sound lives12t_ok, trivial⟩, trivial, trivial, trivial, ⟨ZLoop.lt_ok tL0_ok, tM_ok, ZLoop.lt_ok itL_ok, ZLoop.lt_ok cmL_ok, trivial⟩⟩
abbrev C8e := mkCxZ tys fns K8e
theorem all8e : SumAll Try.prog C8e := sums_allZ K8e_ok
end Go.Proofs.Ytecncappdnhbaaa
end
end

/- TapeTakes: the law. -/
section
set_option autoImplicit false
set_option linter.unusedVariables false
set_option linter.unusedSimpArgs false
set_option maxRecDepth 100000
noncomputable section
namespace Go.Proofs.Ytecncappdnhbaaa
open Go.Ab.M Go.Ab Go
theorem tk_bl (a : Bool) (lb : Nat) (b : List AV) (a1 : Bool) (l1 : Nat) (ns : List AV) (h0 : (iltB (Int.ofNat 200) (Int.ofNat lb)) = true) :
    ∃ h', aCall C8e 60 (Tgt.fn 9) [AV.fsl a lb b, AV.fsl a1 l1 ns] H0 = some (AV.bool true, h') ∧ [].map h'.get = [] :=
  call_runZ (q := (oc 4 (.y :: (.y :: (.y :: (.y :: (oc 1 []))))))) (c := (Cnd.tst _ true :: Cnd.tst _ true :: Cnd.tst _ true :: Cnd.tst _ true :: [])) (by kernel_rfl) ⟨h0, h0, h0, h0, trivial⟩
theorem tk_nl (a : Bool) (lb : Nat) (b : List AV) (a1 : Bool) (l1 : Nat) (ns : List AV) (h0 : (iltB (Int.ofNat 200) (Int.ofNat lb)) = false) (h1 : (iltB (Int.ofNat 40) (Int.ofNat l1)) = true) :
    ∃ h', aCall C8e 60 (Tgt.fn 9) [AV.fsl a lb b, AV.fsl a1 l1 ns] H0 = some (AV.bool true, h') ∧ [].map h'.get = [] :=
  call_runZ (q := (oc 4 (.z :: (.z :: (.z :: (.z :: (.y :: []))))))) (c := (Cnd.tst _ false :: Cnd.tst _ false :: Cnd.tst _ false :: Cnd.tst _ false :: Cnd.tst _ true :: [])) (by kernel_rfl) ⟨h0, h0, h0, h0, h1, trivial⟩
theorem tk_en (a : Bool) (lb : Nat) (b : List AV) (a1 : Bool) (l1 : Nat) (ns : List AV) (h0 : (iltB (Int.ofNat 200) (Int.ofNat lb)) = false) (h1 : (iltB (Int.ofNat 40) (Int.ofNat l1)) = false) (h2 : (b.length.beq (lb.mul 1)) = true) (h3 : (lb.beq 0) = true) (h4 : (AV.plainL b) = true) (h5 : (AV.plainL ns) = true) (h6 : (AV.plainL (kept (ofBytes (goX 0 (bytesL []) 0)))) = true) (h7 : (kept (noT lb (intsZ ns))) = true) (h8 : (u8L b) = true) (h9 : (b.length.beq lb) = true) (h10 : (kept ([] == bytesL b)) = true) (h11 : (Nat.beq 0 lb) = true) (h12 : (l1.beq l1) = true) (h13 : (isZ ns) = true) (h14 : (ns.length.beq l1) = true) (h15 : (lb.ble 200) = true) (h16 : (l1.ble 40) = true) (h17 : (same (frameOf 12 [(3, AV.ptr (some (2, 0)))]) (frameOf 12 [(3, AV.ptr (some (2, 0)))])) = true) (h18 : (same (rps Try.f38) (rps Try.f38)) = true) (h19 : (same (rasg Try.f38) (rasg Try.f38)) = true) (h20 : (same (rbody Try.f38) (rbody Try.f38)) = true) :
    ∃ h', aCall C8e 60 (Tgt.fn 9) [AV.fsl a lb b, AV.fsl a1 l1 ns] H0 = some (AV.bool true, h') ∧ [].map h'.get = [] :=
  call_runZ (q := (oc 4 (.z :: (.z :: (.z :: (.z :: (.z :: (oc 1 (.y :: (.y :: (oc 17 (.y :: (.y :: (oc 8 (.y :: (.y :: (oc 17 (.y :: (.y :: (oc 2 (.y :: (.y :: (oc 3 (.y :: (oc 4 (.y :: (oc 6 (.y :: (oc 1 (.y :: (oc 4 (.y :: (oc 1 (.y :: (oc 4 (.y :: (.y :: (.y :: (oc 1 (.y :: (.y :: (.y :: (oc 2 (.y :: (oc 1 (.y :: (.y :: (.y :: (.y :: (oc 1 (.y :: (oc 1 (.y :: (oc 27 (.y :: (.y :: (.y :: (.y :: (oc 47 (.y :: (.y :: (.y :: (.y :: (oc 14 [])))))))))))))))))))))))))))))))))))))))))))))))))))))))))))))))) (c := (Cnd.tst _ false :: Cnd.tst _ false :: Cnd.tst _ false :: Cnd.tst _ false :: Cnd.tst _ false :: Cnd.tst _ true :: Cnd.tst _ true :: Cnd.code (ZLT.lsumS (flOf tys) ((9, 0), tL0.lt).snd).fst (ZLT.lsumS (flOf tys) ((9, 0), tL0.lt).snd).fst :: Cnd.tst _ true :: Cnd.tst _ true :: Cnd.tst _ true :: Cnd.tst _ true :: Cnd.tst _ true :: Cnd.tst _ true :: Cnd.tst _ true :: Cnd.tst _ true :: Cnd.tst _ true :: Cnd.code (ZLT.lsumS (flOf tys) ((9, 2), tM).snd).fst (ZLT.lsumS (flOf tys) ((9, 2), tM).snd).fst :: Cnd.tst _ true :: Cnd.tst _ true :: Cnd.tst _ true :: Cnd.tst _ true :: Cnd.tst _ true :: Cnd.tst _ true :: Cnd.tst _ true :: Cnd.tst _ true :: Cnd.tst _ true :: Cnd.tst _ true :: Cnd.tst _ true :: Cnd.tst _ true :: Cnd.tst _ true :: Cnd.tst _ true :: Cnd.tst _ true :: Cnd.tst _ true :: Cnd.tst _ true :: Cnd.tst _ true :: Cnd.code (ZLT.lsumS (flOf tys) ((102, 0), itL.lt).snd).fst (ZLT.lsumS (flOf tys) ((102, 0), itL.lt).snd).fst :: Cnd.tst _ true :: Cnd.tst _ true :: Cnd.tst _ true :: Cnd.tst _ true :: Cnd.code (ZLT.lsumS (flOf tys) ((9, 7), cmL.lt).snd).fst (ZLT.lsumS (flOf tys) ((9, 7), cmL.lt).snd).fst :: Cnd.code (ZLT.lsumS (flOf tys) ((102, 0), itL.lt).snd).fst (ZLT.lsumS (flOf tys) ((102, 0), itL.lt).snd).fst :: Cnd.tst _ true :: Cnd.tst _ true :: Cnd.tst _ true :: Cnd.tst _ true :: [])) (by kernel_rfl) ⟨h0, h0, h0, h0, h1, h2, h3, rfl, h4, h5, h4, h5, h4, h5, h4, h5, h6, rfl, h7, h4, h5, h4, h5, h7, h8, h9, h10, h11, h11, h12, h13, h14, h15, h16, h4, h5, rfl, h17, h18, h19, h20, rfl, rfl, h17, h18, h19, h20, trivial⟩
theorem tk_es (a : Bool) (lb : Nat) (b : List AV) (a1 : Bool) (l1 : Nat) (ns : List AV) (h0 : (iltB (Int.ofNat 200) (Int.ofNat lb)) = false) (h1 : (iltB (Int.ofNat 40) (Int.ofNat l1)) = false) (h2 : (b.length.beq (lb.mul 1)) = true) (h3 : (lb.beq 0) = true) (h4 : (AV.plainL b) = true) (h5 : (AV.plainL ns) = true) (h6 : (AV.plainL (kept (ofBytes (goX 0 (bytesL []) 0)))) = true) (h7 : (kept (noT lb (intsZ ns))) = false) (h8 : (kept !noT lb (intsZ ns)) = true) (h9 : (u8L b) = true) (h10 : (b.length.beq lb) = true) (h11 : (kept ([] == bytesL b)) = true) (h12 : (Nat.beq 0 lb) = true) (h13 : (l1.beq l1) = true) (h14 : (isZ ns) = true) (h15 : (ns.length.beq l1) = true) (h16 : (lb.ble 200) = true) (h17 : (l1.ble 40) = true) (h18 : (AV.plainL (kept (encT (takesT lb (intsZ ns))))) = true) (h19 : (same (frameOf 12 [(3, AV.ptr (some (3, 0)))]) (frameOf 12 [(3, AV.ptr (some (3, 0)))])) = true) (h20 : (same (rps Try.f38) (rps Try.f38)) = true) (h21 : (same (rasg Try.f38) (rasg Try.f38)) = true) (h22 : (same (rbody Try.f38) (rbody Try.f38)) = true) (h23 : (isT (kept (encT (takesT lb (intsZ ns))))) = true) (h24 : ((kept (encT (takesT lb (intsZ ns)))).length.beq (kept (takesT lb (intsZ ns)).length * 3)) = true) (h25 : ((kept (takesT lb (intsZ ns)).length * 3).beq (kept (takesT lb (intsZ ns)).length * 3)) = true) (h26 : ((kept (takesT lb (intsZ ns)).length).beq (kept (takesT lb (intsZ ns)).length)) = true) (h27 : (Nat.ble 1 (kept (takesT lb (intsZ ns)).length)) = true) (h28 : ((kept (takesT lb (intsZ ns)).length).ble 1000) = true) (h29 : (!ieqB (Int.ofNat (kept (takesT lb (intsZ ns)).length)) (Int.ofNat (kept (takesT lb (intsZ ns)).length))) = false) (h30 : (kept (decT (kept (encT (takesT lb (intsZ ns)))) == decT (kept (encT (takesT lb (intsZ ns)))))) = true) (h31 : (same (frameOf 12 [(3, AV.ptr (some (2, 0)))]) (frameOf 12 [(3, AV.ptr (some (2, 0)))])) = true) :
    ∃ h', aCall C8e 60 (Tgt.fn 9) [AV.fsl a lb b, AV.fsl a1 l1 ns] H0 = some (AV.bool true, h') ∧ [].map h'.get = [] :=
  call_runZ (q := (oc 4 (.z :: (.z :: (.z :: (.z :: (.z :: (oc 1 (.y :: (.y :: (oc 17 (.y :: (.y :: (oc 8 (.y :: (.y :: (oc 17 (.y :: (.y :: (oc 2 (.y :: (.y :: (oc 3 (.y :: (oc 4 (.z :: (oc 6 (.y :: (oc 1 (.y :: (oc 4 (.y :: (oc 1 (.y :: (oc 4 (.y :: (.y :: (.y :: (oc 1 (.y :: (.y :: (.y :: (oc 2 (.y :: (oc 1 (.y :: (.y :: (.y :: (.y :: (oc 1 (.y :: (oc 2 (.y :: (oc 6 (.y :: (oc 1 (.y :: (oc 22 (.y :: (oc 6 (.y :: (oc 1 (.y :: (.y :: (.y :: (.y :: (.y :: (.y :: (.y :: (.y :: (oc 1 (.y :: (.y :: (oc 6 (.y :: (oc 3 (.y :: (oc 3 (.z :: (oc 9 (.y :: (oc 1 (.y :: (oc 3 (.y :: (oc 1 (.y :: (.y :: (.y :: (.y :: (.y :: (.y :: (.y :: (.y :: (.y :: (oc 1 (.y :: (oc 4 (.y :: (oc 1 (.y :: (oc 31 (.y :: (.y :: (.y :: (.y :: (oc 14 []))))))))))))))))))))))))))))))))))))))))))))))))))))))))))))))))))))))))))))))))))))))))))))))))))))))))))) (c := (Cnd.tst _ false :: Cnd.tst _ false :: Cnd.tst _ false :: Cnd.tst _ false :: Cnd.tst _ false :: Cnd.tst _ true :: Cnd.tst _ true :: Cnd.code (ZLT.lsumS (flOf tys) ((9, 0), tL0.lt).snd).fst (ZLT.lsumS (flOf tys) ((9, 0), tL0.lt).snd).fst :: Cnd.tst _ true :: Cnd.tst _ true :: Cnd.tst _ true :: Cnd.tst _ true :: Cnd.tst _ true :: Cnd.tst _ true :: Cnd.tst _ true :: Cnd.tst _ true :: Cnd.tst _ true :: Cnd.code (ZLT.lsumS (flOf tys) ((9, 2), tM).snd).fst (ZLT.lsumS (flOf tys) ((9, 2), tM).snd).fst :: Cnd.tst _ false :: Cnd.tst _ true :: Cnd.tst _ true :: Cnd.tst _ true :: Cnd.tst _ true :: Cnd.tst _ true :: Cnd.tst _ true :: Cnd.tst _ true :: Cnd.tst _ true :: Cnd.tst _ true :: Cnd.tst _ true :: Cnd.tst _ true :: Cnd.tst _ true :: Cnd.tst _ true :: Cnd.tst _ true :: Cnd.tst _ true :: Cnd.tst _ true :: Cnd.tst _ true :: Cnd.tst _ true :: Cnd.tst _ true :: Cnd.code (ZLT.lsumS (flOf tys) ((102, 0), itL.lt).snd).fst (ZLT.lsumS (flOf tys) ((102, 0), itL.lt).snd).fst :: Cnd.tst _ true :: Cnd.tst _ true :: Cnd.tst _ true :: Cnd.tst _ true :: Cnd.tst _ true :: Cnd.tst _ true :: Cnd.tst _ true :: Cnd.tst _ true :: Cnd.tst _ true :: Cnd.tst _ true :: Cnd.tst _ true :: Cnd.tst _ true :: Cnd.tst _ true :: Cnd.tst _ true :: Cnd.tst _ false :: Cnd.code (ZLT.lsumS (flOf tys) ((9, 7), cmL.lt).snd).fst (ZLT.lsumS (flOf tys) ((9, 7), cmL.lt).snd).fst :: Cnd.tst _ true :: Cnd.tst _ true :: Cnd.tst _ true :: Cnd.tst _ true :: Cnd.tst _ true :: Cnd.tst _ true :: Cnd.tst _ true :: Cnd.tst _ true :: Cnd.tst _ true :: Cnd.tst _ true :: Cnd.tst _ true :: Cnd.tst _ true :: Cnd.tst _ true :: Cnd.tst _ true :: Cnd.tst _ true :: Cnd.code (ZLT.lsumS (flOf tys) ((102, 0), itL.lt).snd).fst (ZLT.lsumS (flOf tys) ((102, 0), itL.lt).snd).fst :: Cnd.tst _ true :: Cnd.tst _ true :: Cnd.tst _ true :: Cnd.tst _ true :: [])) (by kernel_rfl) ⟨h0, h0, h0, h0, h1, h2, h3, rfl, h4, h5, h4, h5, h4, h5, h4, h5, h6, rfl, h7, h4, h5, h4, h5, h8, h9, h10, h11, h12, h12, h13, h14, h15, h16, h17, h4, h5, h18, h18, rfl, h18, h18, h19, h20, h21, h22, h23, h24, h25, h26, h27, h28, h18, h18, h29, rfl, h18, h18, h18, h18, h23, h23, h30, h24, h25, h25, h26, h26, h28, h18, h18, rfl, h31, h20, h21, h22, trivial⟩
theorem tk_nn (a : Bool) (lb : Nat) (b : List AV) (a1 : Bool) (l1 : Nat) (ns : List AV) (h0 : (iltB (Int.ofNat 200) (Int.ofNat lb)) = false) (h1 : (iltB (Int.ofNat 40) (Int.ofNat l1)) = false) (h2 : (b.length.beq (lb.mul 1)) = true) (h3 : (lb.beq 0) = false) (h4 : (appRoom 1 0 lb) = true) (h5 : (Nat.ble 1 (0 + lb)) = true) (h6 : (iltB (Int.ofNat 1048576) (Int.ofNat (0 + lb))) = false) (h7 : ((0 + (0 + lb) * 1).ble ([] ++ b).length) = true) (h8 : (AV.plainL ([] ++ b)) = true) (h9 : ((rowCut ([] ++ b) 0 ((0 + lb) * 1)).length.beq (0 + lb)) = true) (h10 : (u8L (rowCut ([] ++ b) 0 ((0 + lb) * 1))) = true) (h11 : ((0 + lb).ble 1099511627776) = true) (h12 : (AV.plainL b) = true) (h13 : (AV.plainL ns) = true) (h14 : (AV.plainL (rowCut ([] ++ b) 0 ((0 + lb) * 1))) = true) (h15 : (u8L ([] ++ b)) = true) (h16 : (([] ++ b).length.beq (0 + lb)) = true) (h17 : ((0 + lb).beq (0 + lb)) = true) (h18 : ((0 + lb).succ.ble 1000000) = true) (h19 : (AV.plainL (kept (ofBytes (goX (0 + lb) (bytesL ([] ++ b)) 0)))) = true) (h20 : (kept (noT lb (intsZ ns))) = true) (h21 : (u8L b) = true) (h22 : (b.length.beq lb) = true) (h23 : (kept (bytesL (rowCut ([] ++ b) 0 ((0 + lb) * 1)) == bytesL b)) = true) (h24 : ((0 + lb).beq lb) = true) (h25 : (l1.beq l1) = true) (h26 : (isZ ns) = true) (h27 : (ns.length.beq l1) = true) (h28 : (lb.ble 200) = true) (h29 : (l1.ble 40) = true) (h30 : (same (frameOf 12 [(3, AV.ptr (some (2, 0)))]) (frameOf 12 [(3, AV.ptr (some (2, 0)))])) = true) (h31 : (same (rps Try.f38) (rps Try.f38)) = true) (h32 : (same (rasg Try.f38) (rasg Try.f38)) = true) (h33 : (same (rbody Try.f38) (rbody Try.f38)) = true) :
    ∃ h', aCall C8e 60 (Tgt.fn 9) [AV.fsl a lb b, AV.fsl a1 l1 ns] H0 = some (AV.bool true, h') ∧ [].map h'.get = [] :=
  call_runZ (q := (oc 4 (.z :: (.z :: (.z :: (.z :: (.z :: (oc 1 (.y :: (.z :: (.y :: (.y :: (oc 1 (.z :: (.y :: (.y :: (.y :: (.y :: (.y :: (oc 11 (.y :: (.y :: (oc 3 (.y :: (oc 3 (.y :: (.y :: (.y :: (oc 3 (.y :: (oc 3 (.y :: (.y :: (.y :: (.y :: (.y :: (oc 1 (.y :: (.y :: (oc 1 (.y :: (.y :: (.y :: (.y :: (oc 1 (.y :: (.y :: (oc 3 (.y :: (oc 3 (.y :: (.y :: (oc 6 (.y :: (oc 1 (.y :: (oc 3 (.y :: (.y :: (oc 1 (.y :: (oc 3 (.y :: (.y :: (.y :: (.y :: (.y :: (.y :: (.y :: (.y :: (oc 2 (.y :: (oc 1 (.y :: (.y :: (.y :: (.y :: (oc 1 (.y :: (oc 1 (.y :: (oc 3 (.y :: (oc 23 (.y :: (.y :: (.y :: (.y :: (oc 47 (.y :: (.y :: (.y :: (.y :: (oc 14 [])))))))))))))))))))))))))))))))))))))))))))))))))))))))))))))))))))))))))))))))))))))))))))))) (c := (Cnd.tst _ false :: Cnd.tst _ false :: Cnd.tst _ false :: Cnd.tst _ false :: Cnd.tst _ false :: Cnd.tst _ true :: Cnd.tst _ false :: Cnd.tst _ true :: Cnd.tst _ true :: Cnd.tst _ false :: Cnd.tst _ true :: Cnd.tst _ true :: Cnd.tst _ true :: Cnd.tst _ true :: Cnd.tst _ true :: Cnd.code (ZLT.lsumS (flOf tys) ((9, 0), tL0.lt).snd).fst (ZLT.lsumS (flOf tys) ((9, 0), tL0.lt).snd).fst :: Cnd.tst _ true :: Cnd.tst _ true :: Cnd.tst _ true :: Cnd.tst _ true :: Cnd.tst _ true :: Cnd.tst _ true :: Cnd.tst _ true :: Cnd.tst _ true :: Cnd.tst _ true :: Cnd.tst _ true :: Cnd.tst _ true :: Cnd.tst _ true :: Cnd.tst _ true :: Cnd.tst _ true :: Cnd.tst _ true :: Cnd.tst _ true :: Cnd.tst _ true :: Cnd.tst _ true :: Cnd.tst _ true :: Cnd.tst _ true :: Cnd.tst _ true :: Cnd.tst _ true :: Cnd.code (ZLT.lsumS (flOf tys) ((9, 2), tM).snd).fst (ZLT.lsumS (flOf tys) ((9, 2), tM).snd).fst :: Cnd.tst _ true :: Cnd.tst _ true :: Cnd.tst _ true :: Cnd.tst _ true :: Cnd.tst _ true :: Cnd.tst _ true :: Cnd.tst _ true :: Cnd.tst _ true :: Cnd.tst _ true :: Cnd.tst _ true :: Cnd.tst _ true :: Cnd.tst _ true :: Cnd.tst _ true :: Cnd.tst _ true :: Cnd.tst _ true :: Cnd.tst _ true :: Cnd.tst _ true :: Cnd.tst _ true :: Cnd.tst _ true :: Cnd.tst _ true :: Cnd.tst _ true :: Cnd.tst _ true :: Cnd.code (ZLT.lsumS (flOf tys) ((102, 0), itL.lt).snd).fst (ZLT.lsumS (flOf tys) ((102, 0), itL.lt).snd).fst :: Cnd.tst _ true :: Cnd.tst _ true :: Cnd.tst _ true :: Cnd.tst _ true :: Cnd.code (ZLT.lsumS (flOf tys) ((9, 7), cmL.lt).snd).fst (ZLT.lsumS (flOf tys) ((9, 7), cmL.lt).snd).fst :: Cnd.code (ZLT.lsumS (flOf tys) ((102, 0), itL.lt).snd).fst (ZLT.lsumS (flOf tys) ((102, 0), itL.lt).snd).fst :: Cnd.tst _ true :: Cnd.tst _ true :: Cnd.tst _ true :: Cnd.tst _ true :: [])) (by kernel_rfl) ⟨h0, h0, h0, h0, h1, h2, h3, h4, h5, h6, h7, h8, h9, h10, h11, rfl, h12, h13, h8, h14, h12, h13, h8, h14, h15, h16, h16, h17, h18, h17, h17, h12, h13, h14, h12, h13, h19, h14, rfl, h20, h12, h13, h14, h12, h13, h14, h20, h21, h22, h10, h23, h24, h24, h25, h26, h27, h28, h29, h12, h13, h14, rfl, h30, h31, h32, h33, rfl, rfl, h30, h31, h32, h33, trivial⟩
theorem tk_ns (a : Bool) (lb : Nat) (b : List AV) (a1 : Bool) (l1 : Nat) (ns : List AV) (h0 : (iltB (Int.ofNat 200) (Int.ofNat lb)) = false) (h1 : (iltB (Int.ofNat 40) (Int.ofNat l1)) = false) (h2 : (b.length.beq (lb.mul 1)) = true) (h3 : (lb.beq 0) = false) (h4 : (appRoom 1 0 lb) = true) (h5 : (Nat.ble 1 (0 + lb)) = true) (h6 : (iltB (Int.ofNat 1048576) (Int.ofNat (0 + lb))) = false) (h7 : ((0 + (0 + lb) * 1).ble ([] ++ b).length) = true) (h8 : (AV.plainL ([] ++ b)) = true) (h9 : ((rowCut ([] ++ b) 0 ((0 + lb) * 1)).length.beq (0 + lb)) = true) (h10 : (u8L (rowCut ([] ++ b) 0 ((0 + lb) * 1))) = true) (h11 : ((0 + lb).ble 1099511627776) = true) (h12 : (AV.plainL b) = true) (h13 : (AV.plainL ns) = true) (h14 : (AV.plainL (rowCut ([] ++ b) 0 ((0 + lb) * 1))) = true) (h15 : (u8L ([] ++ b)) = true) (h16 : (([] ++ b).length.beq (0 + lb)) = true) (h17 : ((0 + lb).beq (0 + lb)) = true) (h18 : ((0 + lb).succ.ble 1000000) = true) (h19 : (AV.plainL (kept (ofBytes (goX (0 + lb) (bytesL ([] ++ b)) 0)))) = true) (h20 : (kept (noT lb (intsZ ns))) = false) (h21 : (kept !noT lb (intsZ ns)) = true) (h22 : (u8L b) = true) (h23 : (b.length.beq lb) = true) (h24 : (kept (bytesL (rowCut ([] ++ b) 0 ((0 + lb) * 1)) == bytesL b)) = true) (h25 : ((0 + lb).beq lb) = true) (h26 : (l1.beq l1) = true) (h27 : (isZ ns) = true) (h28 : (ns.length.beq l1) = true) (h29 : (lb.ble 200) = true) (h30 : (l1.ble 40) = true) (h31 : (AV.plainL (kept (encT (takesT lb (intsZ ns))))) = true) (h32 : (same (frameOf 12 [(3, AV.ptr (some (3, 0)))]) (frameOf 12 [(3, AV.ptr (some (3, 0)))])) = true) (h33 : (same (rps Try.f38) (rps Try.f38)) = true) (h34 : (same (rasg Try.f38) (rasg Try.f38)) = true) (h35 : (same (rbody Try.f38) (rbody Try.f38)) = true) (h36 : (isT (kept (encT (takesT lb (intsZ ns))))) = true) (h37 : ((kept (encT (takesT lb (intsZ ns)))).length.beq (kept (takesT lb (intsZ ns)).length * 3)) = true) (h38 : ((kept (takesT lb (intsZ ns)).length * 3).beq (kept (takesT lb (intsZ ns)).length * 3)) = true) (h39 : ((kept (takesT lb (intsZ ns)).length).beq (kept (takesT lb (intsZ ns)).length)) = true) (h40 : (Nat.ble 1 (kept (takesT lb (intsZ ns)).length)) = true) (h41 : ((kept (takesT lb (intsZ ns)).length).ble 1000) = true) (h42 : (!ieqB (Int.ofNat (kept (takesT lb (intsZ ns)).length)) (Int.ofNat (kept (takesT lb (intsZ ns)).length))) = false) (h43 : (kept (decT (kept (encT (takesT lb (intsZ ns)))) == decT (kept (encT (takesT lb (intsZ ns)))))) = true) (h44 : (same (frameOf 12 [(3, AV.ptr (some (2, 0)))]) (frameOf 12 [(3, AV.ptr (some (2, 0)))])) = true) :
    ∃ h', aCall C8e 60 (Tgt.fn 9) [AV.fsl a lb b, AV.fsl a1 l1 ns] H0 = some (AV.bool true, h') ∧ [].map h'.get = [] :=
  call_runZ (q := (oc 4 (.z :: (.z :: (.z :: (.z :: (.z :: (oc 1 (.y :: (.z :: (.y :: (.y :: (oc 1 (.z :: (.y :: (.y :: (.y :: (.y :: (.y :: (oc 11 (.y :: (.y :: (oc 3 (.y :: (oc 3 (.y :: (.y :: (.y :: (oc 3 (.y :: (oc 3 (.y :: (.y :: (.y :: (.y :: (.y :: (oc 1 (.y :: (.y :: (oc 1 (.y :: (.y :: (.y :: (.y :: (oc 1 (.y :: (.y :: (oc 3 (.y :: (oc 3 (.y :: (.z :: (oc 6 (.y :: (oc 1 (.y :: (oc 3 (.y :: (.y :: (oc 1 (.y :: (oc 3 (.y :: (.y :: (.y :: (.y :: (.y :: (.y :: (.y :: (.y :: (oc 2 (.y :: (oc 1 (.y :: (.y :: (.y :: (.y :: (oc 1 (.y :: (oc 2 (.y :: (oc 4 (.y :: (oc 1 (.y :: (oc 1 (.y :: (oc 22 (.y :: (oc 6 (.y :: (oc 1 (.y :: (.y :: (.y :: (.y :: (.y :: (.y :: (.y :: (.y :: (oc 1 (.y :: (.y :: (oc 6 (.y :: (oc 3 (.y :: (oc 3 (.z :: (oc 9 (.y :: (oc 1 (.y :: (oc 3 (.y :: (oc 1 (.y :: (.y :: (.y :: (.y :: (.y :: (.y :: (.y :: (.y :: (.y :: (oc 1 (.y :: (oc 4 (.y :: (oc 1 (.y :: (oc 31 (.y :: (.y :: (.y :: (.y :: (oc 14 []))))))))))))))))))))))))))))))))))))))))))))))))))))))))))))))))))))))))))))))))))))))))))))))))))))))))))))))))))))))))))))))))))))))))) (c := (Cnd.tst _ false :: Cnd.tst _ false :: Cnd.tst _ false :: Cnd.tst _ false :: Cnd.tst _ false :: Cnd.tst _ true :: Cnd.tst _ false :: Cnd.tst _ true :: Cnd.tst _ true :: Cnd.tst _ false :: Cnd.tst _ true :: Cnd.tst _ true :: Cnd.tst _ true :: Cnd.tst _ true :: Cnd.tst _ true :: Cnd.code (ZLT.lsumS (flOf tys) ((9, 0), tL0.lt).snd).fst (ZLT.lsumS (flOf tys) ((9, 0), tL0.lt).snd).fst :: Cnd.tst _ true :: Cnd.tst _ true :: Cnd.tst _ true :: Cnd.tst _ true :: Cnd.tst _ true :: Cnd.tst _ true :: Cnd.tst _ true :: Cnd.tst _ true :: Cnd.tst _ true :: Cnd.tst _ true :: Cnd.tst _ true :: Cnd.tst _ true :: Cnd.tst _ true :: Cnd.tst _ true :: Cnd.tst _ true :: Cnd.tst _ true :: Cnd.tst _ true :: Cnd.tst _ true :: Cnd.tst _ true :: Cnd.tst _ true :: Cnd.tst _ true :: Cnd.tst _ true :: Cnd.code (ZLT.lsumS (flOf tys) ((9, 2), tM).snd).fst (ZLT.lsumS (flOf tys) ((9, 2), tM).snd).fst :: Cnd.tst _ false :: Cnd.tst _ true :: Cnd.tst _ true :: Cnd.tst _ true :: Cnd.tst _ true :: Cnd.tst _ true :: Cnd.tst _ true :: Cnd.tst _ true :: Cnd.tst _ true :: Cnd.tst _ true :: Cnd.tst _ true :: Cnd.tst _ true :: Cnd.tst _ true :: Cnd.tst _ true :: Cnd.tst _ true :: Cnd.tst _ true :: Cnd.tst _ true :: Cnd.tst _ true :: Cnd.tst _ true :: Cnd.tst _ true :: Cnd.tst _ true :: Cnd.tst _ true :: Cnd.tst _ true :: Cnd.tst _ true :: Cnd.code (ZLT.lsumS (flOf tys) ((102, 0), itL.lt).snd).fst (ZLT.lsumS (flOf tys) ((102, 0), itL.lt).snd).fst :: Cnd.tst _ true :: Cnd.tst _ true :: Cnd.tst _ true :: Cnd.tst _ true :: Cnd.tst _ true :: Cnd.tst _ true :: Cnd.tst _ true :: Cnd.tst _ true :: Cnd.tst _ true :: Cnd.tst _ true :: Cnd.tst _ true :: Cnd.tst _ true :: Cnd.tst _ true :: Cnd.tst _ true :: Cnd.tst _ false :: Cnd.code (ZLT.lsumS (flOf tys) ((9, 7), cmL.lt).snd).fst (ZLT.lsumS (flOf tys) ((9, 7), cmL.lt).snd).fst :: Cnd.tst _ true :: Cnd.tst _ true :: Cnd.tst _ true :: Cnd.tst _ true :: Cnd.tst _ true :: Cnd.tst _ true :: Cnd.tst _ true :: Cnd.tst _ true :: Cnd.tst _ true :: Cnd.tst _ true :: Cnd.tst _ true :: Cnd.tst _ true :: Cnd.tst _ true :: Cnd.tst _ true :: Cnd.tst _ true :: Cnd.code (ZLT.lsumS (flOf tys) ((102, 0), itL.lt).snd).fst (ZLT.lsumS (flOf tys) ((102, 0), itL.lt).snd).fst :: Cnd.tst _ true :: Cnd.tst _ true :: Cnd.tst _ true :: Cnd.tst _ true :: [])) (by kernel_rfl) ⟨h0, h0, h0, h0, h1, h2, h3, h4, h5, h6, h7, h8, h9, h10, h11, rfl, h12, h13, h8, h14, h12, h13, h8, h14, h15, h16, h16, h17, h18, h17, h17, h12, h13, h14, h12, h13, h19, h14, rfl, h20, h12, h13, h14, h12, h13, h14, h21, h22, h23, h10, h24, h25, h25, h26, h27, h28, h29, h30, h12, h13, h14, h31, h31, rfl, h31, h31, h32, h33, h34, h35, h36, h37, h38, h39, h40, h41, h31, h31, h42, rfl, h31, h31, h31, h31, h36, h36, h43, h37, h38, h38, h39, h39, h41, h31, h31, rfl, h44, h33, h34, h35, trivial⟩
set_option maxHeartbeats 2000000 in
theorem takes_run (a : Bool) (bl : List UInt8) (a1 : Bool) (zs : List Int) : ∃ h', aCall C8e 60 (Tgt.fn 9) [AV.fsl a bl.length (ofBytes bl), AV.fsl a1 zs.length (encZ zs)] H0 = some (AV.bool true, h') := by
  by_cases hb : bl.length ≤ 200
  case neg =>
    obtain ⟨h', h, _⟩ := tk_bl a bl.length (ofBytes bl) a1 zs.length (encZ zs) (by rw [iltB_eq]; exact decide_eq_true (by show ((200 : Nat) : Int) < (bl.length : Int); omega))
    exact ⟨h', h⟩
  have kb : iltB (Int.ofNat 200) (Int.ofNat bl.length) = false := by rw [iltB_eq]; exact decide_eq_false (by show ¬ ((200 : Nat) : Int) < (bl.length : Int); omega)
  by_cases hn : zs.length ≤ 40
  case neg =>
    obtain ⟨h', h, _⟩ := tk_nl a bl.length (ofBytes bl) a1 zs.length (encZ zs) kb (by rw [iltB_eq]; exact decide_eq_true (by show ((40 : Nat) : Int) < (zs.length : Int); omega))
    exact ⟨h', h⟩
  have kn : iltB (Int.ofNat 40) (Int.ofNat zs.length) = false := by rw [iltB_eq]; exact decide_eq_false (by show ¬ ((40 : Nat) : Int) < (zs.length : Int); omega)
  have kz : isZ (encZ zs) = true := isZ_iff.2 ⟨zs, rfl⟩
  have hl : (takesT bl.length zs).length ≤ 40 := by
    have := (tkR_bound bl.length zs 0 (0, []) (Nat.zero_le _)).2
    have h2 : (takesT bl.length zs).length ≤ ([] : List TK).length + zs.length := this
    simp only [List.length_nil] at h2
    omega
  by_cases h0 : bl.length = 0
  · have : bl = [] := List.eq_nil_of_length_eq_zero h0
    subst this
    have hl : (takesT 0 zs).length ≤ 40 := hl
    have bL0 : bytesL [] = [] := rfl
    have q0 : rowCut (ofBytes []) 0 0 = ofBytes [] := rfl
    cases ht : noT 0 zs with
    | true =>
      have key := tk_en a 0 (ofBytes []) a1 zs.length (encZ zs)
      iterate 21
        replace key := key (by
          (try simp only [kept_eq, intsZ_encZ, bytesL_ofBytes, decT_encT, List.nil_append, Nat.zero_add, Nat.mul_one, same_self, beq_self_eq_true, Bool.not_false, Bool.not_true, kb, kn, ht, q0, bL0])
          first
            | done
            | with_reducible rfl
            | with_reducible exact ofBytes_plainL _
            | with_reducible exact u8L_ofBytes _
            | with_reducible exact encZ_plainL _
            | with_reducible exact encT_plainL _
            | with_reducible exact isT_encT _
            | with_reducible exact room_of (by omega) (by omega)
            | (simp [nbeq, nble, iltB_eq, ileB_eq, ieqB_eq, u8L_ofBytes, ofBytes_plainL, ofBytes_length, encZ_length, encZ_plainL, encT_length, encT_plainL, isT_encT, kz]; done)
            | (simp [nbeq, nble, iltB_eq, ileB_eq, ieqB_eq, u8L_ofBytes, ofBytes_plainL, ofBytes_length, encZ_length, encZ_plainL, encT_length, encT_plainL, isT_encT, kz]; omega))
      obtain ⟨h', h, _⟩ := key
      exact ⟨h', h⟩
    | false =>
      have h1 : 1 ≤ (takesT 0 zs).length := by
        unfold noT at ht
        cases hx : takesT 0 zs with
        | nil => rw [hx] at ht; cases ht
        | cons _ _ => simp
      have key := tk_es a 0 (ofBytes []) a1 zs.length (encZ zs)
      iterate 32
        replace key := key (by
          (try simp only [kept_eq, intsZ_encZ, bytesL_ofBytes, decT_encT, List.nil_append, Nat.zero_add, Nat.mul_one, same_self, beq_self_eq_true, Bool.not_false, Bool.not_true, kb, kn, ht, q0, bL0])
          first
            | done
            | with_reducible rfl
            | with_reducible exact ofBytes_plainL _
            | with_reducible exact u8L_ofBytes _
            | with_reducible exact encZ_plainL _
            | with_reducible exact encT_plainL _
            | with_reducible exact isT_encT _
            | with_reducible exact room_of (by omega) (by omega)
            | (simp [nbeq, nble, iltB_eq, ileB_eq, ieqB_eq, u8L_ofBytes, ofBytes_plainL, ofBytes_length, encZ_length, encZ_plainL, encT_length, encT_plainL, isT_encT, kz]; done)
            | (simp [nbeq, nble, iltB_eq, ileB_eq, ieqB_eq, u8L_ofBytes, ofBytes_plainL, ofBytes_length, encZ_length, encZ_plainL, encT_length, encT_plainL, isT_encT, kz]; omega))
      obtain ⟨h', h, _⟩ := key
      exact ⟨h', h⟩
  · have k2 : Nat.beq bl.length 0 = false := by rw [nbeq]; exact decide_eq_false h0
    have q0 : rowCut (ofBytes bl) 0 bl.length = ofBytes bl := by rw [rowCut_ofBytes, List.drop_zero, List.take_of_length_le (Nat.le_refl _)]
    cases ht : noT bl.length zs with
    | true =>
      have key := tk_nn a bl.length (ofBytes bl) a1 zs.length (encZ zs)
      iterate 34
        replace key := key (by
          (try simp only [kept_eq, intsZ_encZ, bytesL_ofBytes, decT_encT, List.nil_append, Nat.zero_add, Nat.mul_one, same_self, beq_self_eq_true, Bool.not_false, Bool.not_true, kb, kn, ht, q0, k2])
          first
            | done
            | with_reducible rfl
            | with_reducible exact ofBytes_plainL _
            | with_reducible exact u8L_ofBytes _
            | with_reducible exact encZ_plainL _
            | with_reducible exact encT_plainL _
            | with_reducible exact isT_encT _
            | with_reducible exact room_of (by omega) (by omega)
            | (simp [nbeq, nble, iltB_eq, ileB_eq, ieqB_eq, u8L_ofBytes, ofBytes_plainL, ofBytes_length, encZ_length, encZ_plainL, encT_length, encT_plainL, isT_encT, kz]; done)
            | (simp [nbeq, nble, iltB_eq, ileB_eq, ieqB_eq, u8L_ofBytes, ofBytes_plainL, ofBytes_length, encZ_length, encZ_plainL, encT_length, encT_plainL, isT_encT, kz]; omega))
      obtain ⟨h', h, _⟩ := key
      exact ⟨h', h⟩
    | false =>
      have h1 : 1 ≤ (takesT bl.length zs).length := by
        unfold noT at ht
        cases hx : takesT bl.length zs with
        | nil => rw [hx] at ht; cases ht
        | cons _ _ => simp
      have key := tk_ns a bl.length (ofBytes bl) a1 zs.length (encZ zs)
      iterate 45
        replace key := key (by
          (try simp only [kept_eq, intsZ_encZ, bytesL_ofBytes, decT_encT, List.nil_append, Nat.zero_add, Nat.mul_one, same_self, beq_self_eq_true, Bool.not_false, Bool.not_true, kb, kn, ht, q0, k2])
          first
            | done
            | with_reducible rfl
            | with_reducible exact ofBytes_plainL _
            | with_reducible exact u8L_ofBytes _
            | with_reducible exact encZ_plainL _
            | with_reducible exact encT_plainL _
            | with_reducible exact isT_encT _
            | with_reducible exact room_of (by omega) (by omega)
            | (simp [nbeq, nble, iltB_eq, ileB_eq, ieqB_eq, u8L_ofBytes, ofBytes_plainL, ofBytes_length, encZ_length, encZ_plainL, encT_length, encT_plainL, isT_encT, kz]; done)
            | (simp [nbeq, nble, iltB_eq, ileB_eq, ieqB_eq, u8L_ofBytes, ofBytes_plainL, ofBytes_length, encZ_length, encZ_plainL, encT_length, encT_plainL, isT_encT, kz]; omega))
      obtain ⟨h', h, _⟩ := key
      exact ⟨h', h⟩
end Go.Proofs.Ytecncappdnhbaaa
end
end
