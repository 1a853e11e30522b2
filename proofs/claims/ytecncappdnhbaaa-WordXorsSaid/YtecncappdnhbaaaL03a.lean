/- Bytes: copies; words written behind bytes. -/
import Derived.Test.YtecncappdnhbaaaL02b
import Derived.Test.YtecncappdnhbaaaW03
set_option autoImplicit false
set_option linter.unusedVariables false
set_option linter.unusedSimpArgs false
set_option maxRecDepth 100000
noncomputable section
namespace Go.Ab
theorem shr_byte (x j : Nat) : wrapA .u8 (shrN (x : Int) (8 * j)) = ((UInt8.ofNat (x / 256 ^ j)).toNat : Int) := by
  have e : shrN (x : Int) (8 * j) = ((x / 2 ^ (8 * j) : Nat) : Int) := rfl
  rw [e, wrapA_eq]
  simp only [IntKind.wrap, IntKind.signed, IntKind.bits, Bool.false_and, Bool.false_eq_true, if_false]
  have h : (UInt8.ofNat (x / 256 ^ j)).toNat = x / 256 ^ j % 256 := by simp
  have h2 : (2 : Nat) ^ (8 * j) = 256 ^ j := by rw [Nat.pow_mul]
  rw [h, h2]; simp
theorem room_of {len k : Nat} (h : len ≤ 1099511627776) (hk : k ≤ 1099511627776) : appRoom 1 len k = true := by
  unfold appRoom; exact decide_eq_true (by omega)
theorem beq_of {a b : Nat} (h : a = b) : Nat.beq a b = true := by rw [nbeq]; exact decide_eq_true h
theorem beq_of1 {a b : Nat} (h : a = b) : Nat.beq a (Nat.mul b 1) = true := by rw [nbeq]; exact decide_eq_true (by show a = b * 1; omega)
theorem ble_of {a b : Nat} (h : a ≤ b) : Nat.ble a b = true := by rw [nble]; exact decide_eq_true h
theorem eq_of_beq' {a b : Nat} (h : Nat.beq a b = true) : a = b := Nat.eq_of_beq_eq_true h
theorem le_of_ble' {a b : Nat} (h : Nat.ble a b = true) : a ≤ b := Nat.le_of_ble_eq_true h
end Go.Ab
namespace Go.Proofs.Ytecncappdnhbaaa
open Go.Ab.M Go.Ab Go
/-- a copy of bytes. -/
def cloneR : RSum := RSum.nb true fun us => match us with
  | [.fsl true 0 []] => some ([], fun _ => .slice none 0 (some 0), [])
  | [.fsl false len cs] => some ([Nat.beq cs.length len, u8L cs, Nat.ble len 1099511627776], fun n => .slice (some (n, 0)) len none, [.cells true 5 len cs])
  | _ => none
abbrev F03a : FTab := [(67, cloneR)] ++ F01
abbrev C03a := mkCx tys fns F03a []
abbrev S03a := mkS tys F03a []
theorem cloneN :
    ∃ h', aCall C0 60 (Tgt.fn 67) [AV.fsl true 0 []] H0 = some (AV.slice none 0 (some 0), h') ∧ [].map h'.get = [] :=
  call_run (q := (oc 1 [])) (c := ([])) (by kernel_rfl) trivial
theorem clone0 (len : Nat) (cs : List AV) (h0 : (cs.length.beq (len.mul 1)) = true) (h1 : (len.beq 0) = true) :
    ∃ h', aCall C0 60 (Tgt.fn 67) [AV.fsl false len cs] H0 = some (AV.slice (some (0, 0)) 0 (some 0), h') ∧ [0].map h'.get = [Blk.cells true 5 0 []] :=
  call_run (q := (oc 2 (.y :: (.y :: [])))) (c := (Cnd.tst _ true :: Cnd.tst _ true :: [])) (by kernel_rfl) ⟨h0, h1, trivial⟩
theorem clone1 (len : Nat) (cs : List AV) (h0 : (cs.length.beq (len.mul 1)) = true) (h1 : (len.beq 0) = false) (h2 : (appRoom 1 0 len) = true) (h3 : (Nat.ble 1 (0 + len)) = true) :
    ∃ h', aCall C0 60 (Tgt.fn 67) [AV.fsl false len cs] H0 = some (AV.slice (some (1, 0)) (0 + len) none, h') ∧ [1].map h'.get = [Blk.cells true 5 ([] ++ cs).length ([] ++ cs)] :=
  call_run (q := (oc 2 (.y :: (.z :: (.y :: (.y :: (oc 1 []))))))) (c := (Cnd.tst _ true :: Cnd.tst _ false :: Cnd.tst _ true :: Cnd.tst _ true :: [])) (by kernel_rfl) ⟨h0, h1, h2, h3, trivial⟩
theorem cloneR_ok : RSum.Sound Try.prog tys 67 cloneR := by
  refine RSum.sound (cx_goes _ _) all0 (RSum.nb_ok fun us c v bs hm hc => ?_)
  split at hm
  · injection hm with hm; injection hm with e1 hm; injection hm with e2 e3; subst e1; subst e2; subst e3
    obtain ⟨h', h, _⟩ := cloneN
    exact ⟨(fun b hb => by cases hb), 60, h', [], _, h, rfl, (fun l l' j e => by cases e), rfl, fun n ρ hρ => AV.Le.refl _⟩
  · rename_i len cs
    injection hm with hm; injection hm with e1 hm; injection hm with e2 e3; subst e1; subst e2; subst e3
    simp only [allTrue_cons] at hc
    obtain ⟨c1, c2, c3, _⟩ := hc
    have c1 := eq_of_beq' c1
    have c3 := le_of_ble' c3
    obtain ⟨l, rfl⟩ := u8L_iff.1 c2
    refine ⟨fun b hb => ?_, ?_⟩
    · have : b = .cells true 5 len (ofBytes l) := by simpa using hb
      subst this
      simp only [Blk.plainOwn, ofBytes_plain, Bool.and_self]
    · by_cases h0 : len = 0
      · obtain ⟨h', h, hb⟩ := clone0 len (ofBytes l) (beq_of1 c1) (beq_of h0)
        refine ⟨60, h', [0], _, h, ?_, sel_one 0, rfl, fun n ρ hρ => ?_⟩
        · rw [hb, h0]
          have : ofBytes l = [] := List.eq_nil_of_length_eq_zero (by omega)
          rw [this]
        · have := hρ 0 0 rfl
          simp only [AV.ren, Option.map_some, this, Nat.add_zero, h0]
          exact AV.Le.empty n
      · obtain ⟨h', h, hb⟩ := clone1 len (ofBytes l) (beq_of1 c1) (by rw [nbeq]; exact decide_eq_false h0) (room_of (by omega) c3) (ble_of (by omega))
        refine ⟨60, h', [1], _, h, ?_, sel_one 1, rfl, fun n ρ hρ => ?_⟩
        · rw [hb, List.nil_append, c1]
        · have := hρ 0 1 rfl
          simp only [AV.ren, Option.map_some, this, Nat.add_zero, Nat.zero_add]
          exact AV.Le.refl _
  · cases hm
theorem f03a_ok : ∀ p ∈ F03a, RSum.Sound Try.prog tys p.1 p.2 := by
  intro p h
  rcases List.mem_cons.1 h with rfl | h
  · exact cloneR_ok
  · exact f01_ok p h
theorem all03a : SumAll Try.prog C03a := sums_all f03a_ok (fun _ h => by cases h)
theorem putu8N (x : Int) :
    ∃ h', aCall C03a 60 (Tgt.fn 74) [AV.fsl true 0 [], AV.int IntKind.u8 x] H0 = some (AV.slice (some (1, 0)) 1 none, h') ∧ [1].map h'.get = [Blk.cells true 5 1 [AV.int IntKind.u8 (shrN x 0)]] :=
  call_run (q := (oc 10 [])) (c := ([])) (by kernel_rfl) trivial
theorem putu8 (x : Int) (len : Nat) (cs : List AV) (h0 : (AV.plainL cs) = true) (h1 : (cs.length.beq len) = true) (h2 : (u8L cs) = true) (h3 : (len.ble 1099511627776) = true) (h4 : (appRoom 1 len 1) = true) (h5 : (len.beq (len * 1)) = true) :
    ∃ h', aCall C03a 60 (Tgt.fn 74) [AV.fsl false len cs, AV.int IntKind.u8 x] H0 = some (AV.slice (some (2, 0)) (len + 1) none, h') ∧ [2].map h'.get = [Blk.cells true 5 (cs ++ [AV.int IntKind.u8 (shrN x 0)]).length (cs ++ [AV.int IntKind.u8 (shrN x 0)])] :=
  call_run (q := (.y :: (.y :: (.y :: (.y :: (oc 7 (.y :: (.y :: (oc 2 []))))))))) (c := (Cnd.tst _ true :: Cnd.tst _ true :: Cnd.tst _ true :: Cnd.tst _ true :: Cnd.tst _ true :: Cnd.tst _ true :: [])) (by kernel_rfl) ⟨h0, h1, h2, h3, h4, h5, trivial⟩
theorem cells_u8 (x : Nat) (hx : x < 256) : [AV.int .u8 (shrN (x : Int) 0)] = ofBytes (putB 1 x) := by
  have h : ofBytes (putB 1 x) = [.int .u8 ((UInt8.ofNat (x / 256 ^ 0)).toNat : Int)] := rfl
  have h2 : (UInt8.ofNat (x / 256 ^ 0)).toNat = x / 256 ^ 0 % 256 := by simp
  have e : shrN (x : Int) 0 = ((x / 2 ^ 0 : Nat) : Int) := rfl
  rw [h, h2, e]; congr 3; omega
def putRu8 : RSum := RSum.nb true fun us => match us with
  | [.fsl true 0 [], .int .u8 x] => some ([ileB 0 x, iltB x 256], fun n => .slice (some (n, 0)) 1 none, [.cells true 5 1 (kept (ofBytes (putB 1 x.toNat)))])
  | [.fsl false len cs, .int .u8 x] => some ([Nat.beq cs.length len, u8L cs, Nat.ble len 1000000000000, ileB 0 x, iltB x 256], fun n => .slice (some (n, 0)) (len + 1) none, [.cells true 5 (len + 1) (cs ++ kept (ofBytes (putB 1 x.toNat)))])
  | _ => none
theorem putRu8_ok : RSum.Sound Try.prog tys 74 putRu8 := by
  refine RSum.sound (cx_goes _ _) all03a (RSum.nb_ok fun us c v bs hm hc => ?_)
  split at hm
  · injection hm with hm; injection hm with e1 hm; injection hm with e2 e3; rw [kept_eq] at e3; subst e1; subst e2; subst e3
    simp only [allTrue_cons] at hc
    obtain ⟨c1, c2, _⟩ := hc
    obtain ⟨x, rfl⟩ := nat_of c1
    have c2 : x < 256 := lt_of c2
    obtain ⟨h', h, hb⟩ := putu8N x
    refine ⟨fun b hb => ?_, 60, h', [1], _, h, ?_, sel_one 1, rfl, fun n ρ hρ => ?_⟩
    · have : b = .cells true 5 1 (ofBytes (putB 1 x)) := by simpa using hb
      subst this
      simp only [Blk.plainOwn, ofBytes_plain, Bool.and_self]
    · rw [hb, cells_u8 x c2]; rfl
    · have := hρ 0 1 rfl
      simp only [AV.ren, Option.map_some, this, Nat.add_zero]
      exact AV.Le.refl _
  · rename_i len cs x
    injection hm with hm; injection hm with e1 hm; injection hm with e2 e3; rw [kept_eq] at e3; subst e1; subst e2; subst e3
    simp only [allTrue_cons] at hc
    obtain ⟨c1, c2, c3, c4, c5, _⟩ := hc
    have c1 := eq_of_beq' c1
    have c3 := le_of_ble' c3
    obtain ⟨l, rfl⟩ := u8L_iff.1 c2
    obtain ⟨x, rfl⟩ := nat_of c4
    have c5 : x < 256 := lt_of c5
    obtain ⟨h', h, hb⟩ := putu8 x len (ofBytes l) (ofBytes_plainL l) (beq_of c1) c2 (ble_of (by omega)) (room_of (by omega) (by omega)) (beq_of (by simp only [ofBytes_length, List.length_append, List.length_cons, List.length_nil] at c1 ⊢; omega))
    refine ⟨fun b hb => ?_, 60, h', [2], _, h, ?_, sel_one 2, rfl, fun n ρ hρ => ?_⟩
    · have : b = .cells true 5 (len + 1) (ofBytes l ++ ofBytes (putB 1 x)) := by simpa using hb
      subst this
      rw [← ofBytes_append]
      simp only [Blk.plainOwn, ofBytes_plain, Bool.and_self]
    · rw [hb]
      try simp only [List.append_assoc, List.cons_append, List.nil_append]
      rw [cells_u8 x c5, List.length_append, c1, ofBytes_length, putB_length]; rfl
    · have := hρ 0 2 rfl
      simp only [AV.ren, Option.map_some, this, Nat.add_zero]
      exact AV.Le.refl _
  · cases hm
theorem putu16N (x : Int) :
    ∃ h', aCall C03a 60 (Tgt.fn 62) [AV.fsl true 0 [], AV.int IntKind.u16 x] H0 = some (AV.slice (some (3, 0)) 2 none, h') ∧ [3].map h'.get = [Blk.cells true 5 2 [AV.int IntKind.u8 (wrapA IntKind.u8 (shrN x 8)), AV.int IntKind.u8 (wrapA IntKind.u8 (shrN x 0))]] :=
  call_run (q := (oc 20 [])) (c := ([])) (by kernel_rfl) trivial
theorem putu16 (x : Int) (len : Nat) (cs : List AV) (h0 : (AV.plainL cs) = true) (h1 : (cs.length.beq len) = true) (h2 : (u8L cs) = true) (h3 : (len.ble 1099511627776) = true) (h4 : (appRoom 1 len 1) = true) (h5 : (len.beq (len * 1)) = true) (h6 : (appRoom 1 (len + 1) 1) = true) (h7 : ((cs ++ [AV.int IntKind.u8 (wrapA IntKind.u8 (shrN x 8))]).length.beq ((len + 1) * 1)) = true) :
    ∃ h', aCall C03a 60 (Tgt.fn 62) [AV.fsl false len cs, AV.int IntKind.u16 x] H0 = some (AV.slice (some (4, 0)) (len + 1 + 1) none, h') ∧ [4].map h'.get = [Blk.cells true 5 (cs ++ [AV.int IntKind.u8 (wrapA IntKind.u8 (shrN x 8))] ++ [AV.int IntKind.u8 (wrapA IntKind.u8 (shrN x 0))]).length (cs ++ [AV.int IntKind.u8 (wrapA IntKind.u8 (shrN x 8))] ++ [AV.int IntKind.u8 (wrapA IntKind.u8 (shrN x 0))])] :=
  call_run (q := (.y :: (.y :: (.y :: (.y :: (oc 7 (.y :: (.y :: (oc 8 (.y :: (.y :: (oc 2 [])))))))))))) (c := (Cnd.tst _ true :: Cnd.tst _ true :: Cnd.tst _ true :: Cnd.tst _ true :: Cnd.tst _ true :: Cnd.tst _ true :: Cnd.tst _ true :: Cnd.tst _ true :: [])) (by kernel_rfl) ⟨h0, h1, h2, h3, h4, h5, h6, h7, trivial⟩
theorem cells_u16 (x : Nat) (hx : x < 65536) : [AV.int .u8 (wrapA .u8 (shrN (x : Int) 8)), AV.int .u8 (wrapA .u8 (shrN (x : Int) 0))] = ofBytes (putB 2 x) := by
  have h : ofBytes (putB 2 x) = [.int .u8 ((UInt8.ofNat (x / 256 ^ 1)).toNat : Int), .int .u8 ((UInt8.ofNat (x / 256 ^ 0)).toNat : Int)] := rfl
  rw [h]
  have s : ∀ j, wrapA .u8 (shrN (x : Int) (8 * j)) = ((UInt8.ofNat (x / 256 ^ j)).toNat : Int) := shr_byte x
  have s0 := s 0
  have s1 := s 1
  simp only [← s0, ← s1]
def putRu16 : RSum := RSum.nb true fun us => match us with
  | [.fsl true 0 [], .int .u16 x] => some ([ileB 0 x, iltB x 65536], fun n => .slice (some (n, 0)) 2 none, [.cells true 5 2 (kept (ofBytes (putB 2 x.toNat)))])
  | [.fsl false len cs, .int .u16 x] => some ([Nat.beq cs.length len, u8L cs, Nat.ble len 1000000000000, ileB 0 x, iltB x 65536], fun n => .slice (some (n, 0)) (len + 2) none, [.cells true 5 (len + 2) (cs ++ kept (ofBytes (putB 2 x.toNat)))])
  | _ => none
theorem putRu16_ok : RSum.Sound Try.prog tys 62 putRu16 := by
  refine RSum.sound (cx_goes _ _) all03a (RSum.nb_ok fun us c v bs hm hc => ?_)
  split at hm
  · injection hm with hm; injection hm with e1 hm; injection hm with e2 e3; rw [kept_eq] at e3; subst e1; subst e2; subst e3
    simp only [allTrue_cons] at hc
    obtain ⟨c1, c2, _⟩ := hc
    obtain ⟨x, rfl⟩ := nat_of c1
    have c2 : x < 65536 := lt_of c2
    obtain ⟨h', h, hb⟩ := putu16N x
    refine ⟨fun b hb => ?_, 60, h', [3], _, h, ?_, sel_one 3, rfl, fun n ρ hρ => ?_⟩
    · have : b = .cells true 5 2 (ofBytes (putB 2 x)) := by simpa using hb
      subst this
      simp only [Blk.plainOwn, ofBytes_plain, Bool.and_self]
    · rw [hb, cells_u16 x c2]; rfl
    · have := hρ 0 3 rfl
      simp only [AV.ren, Option.map_some, this, Nat.add_zero]
      exact AV.Le.refl _
  · rename_i len cs x
    injection hm with hm; injection hm with e1 hm; injection hm with e2 e3; rw [kept_eq] at e3; subst e1; subst e2; subst e3
    simp only [allTrue_cons] at hc
    obtain ⟨c1, c2, c3, c4, c5, _⟩ := hc
    have c1 := eq_of_beq' c1
    have c3 := le_of_ble' c3
    obtain ⟨l, rfl⟩ := u8L_iff.1 c2
    obtain ⟨x, rfl⟩ := nat_of c4
    have c5 : x < 65536 := lt_of c5
    obtain ⟨h', h, hb⟩ := putu16 x len (ofBytes l) (ofBytes_plainL l) (beq_of c1) c2 (ble_of (by omega)) (room_of (by omega) (by omega)) (beq_of (by simp only [ofBytes_length, List.length_append, List.length_cons, List.length_nil] at c1 ⊢; omega)) (room_of (by omega) (by omega)) (beq_of (by simp only [ofBytes_length, List.length_append, List.length_cons, List.length_nil] at c1 ⊢; omega))
    refine ⟨fun b hb => ?_, 60, h', [4], _, h, ?_, sel_one 4, rfl, fun n ρ hρ => ?_⟩
    · have : b = .cells true 5 (len + 2) (ofBytes l ++ ofBytes (putB 2 x)) := by simpa using hb
      subst this
      rw [← ofBytes_append]
      simp only [Blk.plainOwn, ofBytes_plain, Bool.and_self]
    · rw [hb]
      try simp only [List.append_assoc, List.cons_append, List.nil_append]
      rw [cells_u16 x c5, List.length_append, c1, ofBytes_length, putB_length]; rfl
    · have := hρ 0 4 rfl
      simp only [AV.ren, Option.map_some, this, Nat.add_zero]
      exact AV.Le.refl _
  · cases hm
theorem putu32N (x : Int) :
    ∃ h', aCall C03a 60 (Tgt.fn 78) [AV.fsl true 0 [], AV.int IntKind.u32 x] H0 = some (AV.slice (some (7, 0)) 4 none, h') ∧ [7].map h'.get = [Blk.cells true 5 4 [AV.int IntKind.u8 (wrapA IntKind.u8 (shrN x 24)), AV.int IntKind.u8 (wrapA IntKind.u8 (shrN x 16)), AV.int IntKind.u8 (wrapA IntKind.u8 (shrN x 8)), AV.int IntKind.u8 (wrapA IntKind.u8 (shrN x 0))]] :=
  call_run (q := (oc 40 [])) (c := ([])) (by kernel_rfl) trivial
theorem putu32 (x : Int) (len : Nat) (cs : List AV) (h0 : (AV.plainL cs) = true) (h1 : (cs.length.beq len) = true) (h2 : (u8L cs) = true) (h3 : (len.ble 1099511627776) = true) (h4 : (appRoom 1 len 1) = true) (h5 : (len.beq (len * 1)) = true) (h6 : (appRoom 1 (len + 1) 1) = true) (h7 : ((cs ++ [AV.int IntKind.u8 (wrapA IntKind.u8 (shrN x 24))]).length.beq ((len + 1) * 1)) = true) (h8 : (appRoom 1 (len + 1 + 1) 1) = true) (h9 : ((cs ++ [AV.int IntKind.u8 (wrapA IntKind.u8 (shrN x 24))] ++ [AV.int IntKind.u8 (wrapA IntKind.u8 (shrN x 16))]).length.beq ((len + 1 + 1) * 1)) = true) (h10 : (appRoom 1 (len + 1 + 1 + 1) 1) = true) (h11 : ((cs ++ [AV.int IntKind.u8 (wrapA IntKind.u8 (shrN x 24))] ++ [AV.int IntKind.u8 (wrapA IntKind.u8 (shrN x 16))] ++ [AV.int IntKind.u8 (wrapA IntKind.u8 (shrN x 8))]).length.beq ((len + 1 + 1 + 1) * 1)) = true) :
    ∃ h', aCall C03a 60 (Tgt.fn 78) [AV.fsl false len cs, AV.int IntKind.u32 x] H0 = some (AV.slice (some (8, 0)) (len + 1 + 1 + 1 + 1) none, h') ∧ [8].map h'.get = [Blk.cells true 5 (cs ++ [AV.int IntKind.u8 (wrapA IntKind.u8 (shrN x 24))] ++ [AV.int IntKind.u8 (wrapA IntKind.u8 (shrN x 16))] ++ [AV.int IntKind.u8 (wrapA IntKind.u8 (shrN x 8))] ++ [AV.int IntKind.u8 (wrapA IntKind.u8 (shrN x 0))]).length (cs ++ [AV.int IntKind.u8 (wrapA IntKind.u8 (shrN x 24))] ++ [AV.int IntKind.u8 (wrapA IntKind.u8 (shrN x 16))] ++ [AV.int IntKind.u8 (wrapA IntKind.u8 (shrN x 8))] ++ [AV.int IntKind.u8 (wrapA IntKind.u8 (shrN x 0))])] :=
  call_run (q := (.y :: (.y :: (.y :: (.y :: (oc 7 (.y :: (.y :: (oc 8 (.y :: (.y :: (oc 8 (.y :: (.y :: (oc 8 (.y :: (.y :: (oc 2 [])))))))))))))))))) (c := (Cnd.tst _ true :: Cnd.tst _ true :: Cnd.tst _ true :: Cnd.tst _ true :: Cnd.tst _ true :: Cnd.tst _ true :: Cnd.tst _ true :: Cnd.tst _ true :: Cnd.tst _ true :: Cnd.tst _ true :: Cnd.tst _ true :: Cnd.tst _ true :: [])) (by kernel_rfl) ⟨h0, h1, h2, h3, h4, h5, h6, h7, h8, h9, h10, h11, trivial⟩
theorem cells_u32 (x : Nat) (hx : x < 4294967296) : [AV.int .u8 (wrapA .u8 (shrN (x : Int) 24)), AV.int .u8 (wrapA .u8 (shrN (x : Int) 16)), AV.int .u8 (wrapA .u8 (shrN (x : Int) 8)), AV.int .u8 (wrapA .u8 (shrN (x : Int) 0))] = ofBytes (putB 4 x) := by
  have h : ofBytes (putB 4 x) = [.int .u8 ((UInt8.ofNat (x / 256 ^ 3)).toNat : Int), .int .u8 ((UInt8.ofNat (x / 256 ^ 2)).toNat : Int), .int .u8 ((UInt8.ofNat (x / 256 ^ 1)).toNat : Int), .int .u8 ((UInt8.ofNat (x / 256 ^ 0)).toNat : Int)] := rfl
  rw [h]
  have s : ∀ j, wrapA .u8 (shrN (x : Int) (8 * j)) = ((UInt8.ofNat (x / 256 ^ j)).toNat : Int) := shr_byte x
  have s0 := s 0
  have s1 := s 1
  have s2 := s 2
  have s3 := s 3
  simp only [← s0, ← s1, ← s2, ← s3]
def putRu32 : RSum := RSum.nb true fun us => match us with
  | [.fsl true 0 [], .int .u32 x] => some ([ileB 0 x, iltB x 4294967296], fun n => .slice (some (n, 0)) 4 none, [.cells true 5 4 (kept (ofBytes (putB 4 x.toNat)))])
  | [.fsl false len cs, .int .u32 x] => some ([Nat.beq cs.length len, u8L cs, Nat.ble len 1000000000000, ileB 0 x, iltB x 4294967296], fun n => .slice (some (n, 0)) (len + 4) none, [.cells true 5 (len + 4) (cs ++ kept (ofBytes (putB 4 x.toNat)))])
  | _ => none
theorem putRu32_ok : RSum.Sound Try.prog tys 78 putRu32 := by
  refine RSum.sound (cx_goes _ _) all03a (RSum.nb_ok fun us c v bs hm hc => ?_)
  split at hm
  · injection hm with hm; injection hm with e1 hm; injection hm with e2 e3; rw [kept_eq] at e3; subst e1; subst e2; subst e3
    simp only [allTrue_cons] at hc
    obtain ⟨c1, c2, _⟩ := hc
    obtain ⟨x, rfl⟩ := nat_of c1
    have c2 : x < 4294967296 := lt_of c2
    obtain ⟨h', h, hb⟩ := putu32N x
    refine ⟨fun b hb => ?_, 60, h', [7], _, h, ?_, sel_one 7, rfl, fun n ρ hρ => ?_⟩
    · have : b = .cells true 5 4 (ofBytes (putB 4 x)) := by simpa using hb
      subst this
      simp only [Blk.plainOwn, ofBytes_plain, Bool.and_self]
    · rw [hb, cells_u32 x c2]; rfl
    · have := hρ 0 7 rfl
      simp only [AV.ren, Option.map_some, this, Nat.add_zero]
      exact AV.Le.refl _
  · rename_i len cs x
    injection hm with hm; injection hm with e1 hm; injection hm with e2 e3; rw [kept_eq] at e3; subst e1; subst e2; subst e3
    simp only [allTrue_cons] at hc
    obtain ⟨c1, c2, c3, c4, c5, _⟩ := hc
    have c1 := eq_of_beq' c1
    have c3 := le_of_ble' c3
    obtain ⟨l, rfl⟩ := u8L_iff.1 c2
    obtain ⟨x, rfl⟩ := nat_of c4
    have c5 : x < 4294967296 := lt_of c5
    obtain ⟨h', h, hb⟩ := putu32 x len (ofBytes l) (ofBytes_plainL l) (beq_of c1) c2 (ble_of (by omega)) (room_of (by omega) (by omega)) (beq_of (by simp only [ofBytes_length, List.length_append, List.length_cons, List.length_nil] at c1 ⊢; omega)) (room_of (by omega) (by omega)) (beq_of (by simp only [ofBytes_length, List.length_append, List.length_cons, List.length_nil] at c1 ⊢; omega)) (room_of (by omega) (by omega)) (beq_of (by simp only [ofBytes_length, List.length_append, List.length_cons, List.length_nil] at c1 ⊢; omega)) (room_of (by omega) (by omega)) (beq_of (by simp only [ofBytes_length, List.length_append, List.length_cons, List.length_nil] at c1 ⊢; omega))
    refine ⟨fun b hb => ?_, 60, h', [8], _, h, ?_, sel_one 8, rfl, fun n ρ hρ => ?_⟩
    · have : b = .cells true 5 (len + 4) (ofBytes l ++ ofBytes (putB 4 x)) := by simpa using hb
      subst this
      rw [← ofBytes_append]
      simp only [Blk.plainOwn, ofBytes_plain, Bool.and_self]
    · rw [hb]
      try simp only [List.append_assoc, List.cons_append, List.nil_append]
      rw [cells_u32 x c5, List.length_append, c1, ofBytes_length, putB_length]; rfl
    · have := hρ 0 8 rfl
      simp only [AV.ren, Option.map_some, this, Nat.add_zero]
      exact AV.Le.refl _
  · cases hm
theorem putu64N (x : Int) :
    ∃ h', aCall C03a 60 (Tgt.fn 80) [AV.fsl true 0 [], AV.int IntKind.u64 x] H0 = some (AV.slice (some (15, 0)) 8 none, h') ∧ [15].map h'.get = [Blk.cells true 5 8 [AV.int IntKind.u8 (wrapA IntKind.u8 (shrN x 56)), AV.int IntKind.u8 (wrapA IntKind.u8 (shrN x 48)), AV.int IntKind.u8 (wrapA IntKind.u8 (shrN x 40)), AV.int IntKind.u8 (wrapA IntKind.u8 (shrN x 32)), AV.int IntKind.u8 (wrapA IntKind.u8 (shrN x 24)), AV.int IntKind.u8 (wrapA IntKind.u8 (shrN x 16)), AV.int IntKind.u8 (wrapA IntKind.u8 (shrN x 8)), AV.int IntKind.u8 (wrapA IntKind.u8 (shrN x 0))]] :=
  call_run (q := (oc 80 [])) (c := ([])) (by kernel_rfl) trivial
theorem putu64 (x : Int) (len : Nat) (cs : List AV) (h0 : (AV.plainL cs) = true) (h1 : (cs.length.beq len) = true) (h2 : (u8L cs) = true) (h3 : (len.ble 1099511627776) = true) (h4 : (appRoom 1 len 1) = true) (h5 : (len.beq (len * 1)) = true) (h6 : (appRoom 1 (len + 1) 1) = true) (h7 : ((cs ++ [AV.int IntKind.u8 (wrapA IntKind.u8 (shrN x 56))]).length.beq ((len + 1) * 1)) = true) (h8 : (appRoom 1 (len + 1 + 1) 1) = true) (h9 : ((cs ++ [AV.int IntKind.u8 (wrapA IntKind.u8 (shrN x 56))] ++ [AV.int IntKind.u8 (wrapA IntKind.u8 (shrN x 48))]).length.beq ((len + 1 + 1) * 1)) = true) (h10 : (appRoom 1 (len + 1 + 1 + 1) 1) = true) (h11 : ((cs ++ [AV.int IntKind.u8 (wrapA IntKind.u8 (shrN x 56))] ++ [AV.int IntKind.u8 (wrapA IntKind.u8 (shrN x 48))] ++ [AV.int IntKind.u8 (wrapA IntKind.u8 (shrN x 40))]).length.beq ((len + 1 + 1 + 1) * 1)) = true) (h12 : (appRoom 1 (len + 1 + 1 + 1 + 1) 1) = true) (h13 : ((cs ++ [AV.int IntKind.u8 (wrapA IntKind.u8 (shrN x 56))] ++ [AV.int IntKind.u8 (wrapA IntKind.u8 (shrN x 48))] ++ [AV.int IntKind.u8 (wrapA IntKind.u8 (shrN x 40))] ++ [AV.int IntKind.u8 (wrapA IntKind.u8 (shrN x 32))]).length.beq ((len + 1 + 1 + 1 + 1) * 1)) = true) (h14 : (appRoom 1 (len + 1 + 1 + 1 + 1 + 1) 1) = true) (h15 : ((cs ++ [AV.int IntKind.u8 (wrapA IntKind.u8 (shrN x 56))] ++ [AV.int IntKind.u8 (wrapA IntKind.u8 (shrN x 48))] ++ [AV.int IntKind.u8 (wrapA IntKind.u8 (shrN x 40))] ++ [AV.int IntKind.u8 (wrapA IntKind.u8 (shrN x 32))] ++ [AV.int IntKind.u8 (wrapA IntKind.u8 (shrN x 24))]).length.beq ((len + 1 + 1 + 1 + 1 + 1) * 1)) = true) (h16 : (appRoom 1 (len + 1 + 1 + 1 + 1 + 1 + 1) 1) = true) (h17 : ((cs ++ [AV.int IntKind.u8 (wrapA IntKind.u8 (shrN x 56))] ++ [AV.int IntKind.u8 (wrapA IntKind.u8 (shrN x 48))] ++ [AV.int IntKind.u8 (wrapA IntKind.u8 (shrN x 40))] ++ [AV.int IntKind.u8 (wrapA IntKind.u8 (shrN x 32))] ++ [AV.int IntKind.u8 (wrapA IntKind.u8 (shrN x 24))] ++ [AV.int IntKind.u8 (wrapA IntKind.u8 (shrN x 16))]).length.beq ((len + 1 + 1 + 1 + 1 + 1 + 1) * 1)) = true) (h18 : (appRoom 1 (len + 1 + 1 + 1 + 1 + 1 + 1 + 1) 1) = true) (h19 : ((cs ++ [AV.int IntKind.u8 (wrapA IntKind.u8 (shrN x 56))] ++ [AV.int IntKind.u8 (wrapA IntKind.u8 (shrN x 48))] ++ [AV.int IntKind.u8 (wrapA IntKind.u8 (shrN x 40))] ++ [AV.int IntKind.u8 (wrapA IntKind.u8 (shrN x 32))] ++ [AV.int IntKind.u8 (wrapA IntKind.u8 (shrN x 24))] ++ [AV.int IntKind.u8 (wrapA IntKind.u8 (shrN x 16))] ++ [AV.int IntKind.u8 (wrapA IntKind.u8 (shrN x 8))]).length.beq ((len + 1 + 1 + 1 + 1 + 1 + 1 + 1) * 1)) = true) :
    ∃ h', aCall C03a 60 (Tgt.fn 80) [AV.fsl false len cs, AV.int IntKind.u64 x] H0 = some (AV.slice (some (16, 0)) (len + 1 + 1 + 1 + 1 + 1 + 1 + 1 + 1) none, h') ∧ [16].map h'.get = [Blk.cells true 5 (cs ++ [AV.int IntKind.u8 (wrapA IntKind.u8 (shrN x 56))] ++ [AV.int IntKind.u8 (wrapA IntKind.u8 (shrN x 48))] ++ [AV.int IntKind.u8 (wrapA IntKind.u8 (shrN x 40))] ++ [AV.int IntKind.u8 (wrapA IntKind.u8 (shrN x 32))] ++ [AV.int IntKind.u8 (wrapA IntKind.u8 (shrN x 24))] ++ [AV.int IntKind.u8 (wrapA IntKind.u8 (shrN x 16))] ++ [AV.int IntKind.u8 (wrapA IntKind.u8 (shrN x 8))] ++ [AV.int IntKind.u8 (wrapA IntKind.u8 (shrN x 0))]).length (cs ++ [AV.int IntKind.u8 (wrapA IntKind.u8 (shrN x 56))] ++ [AV.int IntKind.u8 (wrapA IntKind.u8 (shrN x 48))] ++ [AV.int IntKind.u8 (wrapA IntKind.u8 (shrN x 40))] ++ [AV.int IntKind.u8 (wrapA IntKind.u8 (shrN x 32))] ++ [AV.int IntKind.u8 (wrapA IntKind.u8 (shrN x 24))] ++ [AV.int IntKind.u8 (wrapA IntKind.u8 (shrN x 16))] ++ [AV.int IntKind.u8 (wrapA IntKind.u8 (shrN x 8))] ++ [AV.int IntKind.u8 (wrapA IntKind.u8 (shrN x 0))])] :=
  call_run (q := (.y :: (.y :: (.y :: (.y :: (oc 7 (.y :: (.y :: (oc 8 (.y :: (.y :: (oc 8 (.y :: (.y :: (oc 8 (.y :: (.y :: (oc 8 (.y :: (.y :: (oc 8 (.y :: (.y :: (oc 8 (.y :: (.y :: (oc 8 (.y :: (.y :: (oc 2 [])))))))))))))))))))))))))))))) (c := (Cnd.tst _ true :: Cnd.tst _ true :: Cnd.tst _ true :: Cnd.tst _ true :: Cnd.tst _ true :: Cnd.tst _ true :: Cnd.tst _ true :: Cnd.tst _ true :: Cnd.tst _ true :: Cnd.tst _ true :: Cnd.tst _ true :: Cnd.tst _ true :: Cnd.tst _ true :: Cnd.tst _ true :: Cnd.tst _ true :: Cnd.tst _ true :: Cnd.tst _ true :: Cnd.tst _ true :: Cnd.tst _ true :: Cnd.tst _ true :: [])) (by kernel_rfl) ⟨h0, h1, h2, h3, h4, h5, h6, h7, h8, h9, h10, h11, h12, h13, h14, h15, h16, h17, h18, h19, trivial⟩
theorem cells_u64 (x : Nat) (hx : x < 18446744073709551616) : [AV.int .u8 (wrapA .u8 (shrN (x : Int) 56)), AV.int .u8 (wrapA .u8 (shrN (x : Int) 48)), AV.int .u8 (wrapA .u8 (shrN (x : Int) 40)), AV.int .u8 (wrapA .u8 (shrN (x : Int) 32)), AV.int .u8 (wrapA .u8 (shrN (x : Int) 24)), AV.int .u8 (wrapA .u8 (shrN (x : Int) 16)), AV.int .u8 (wrapA .u8 (shrN (x : Int) 8)), AV.int .u8 (wrapA .u8 (shrN (x : Int) 0))] = ofBytes (putB 8 x) := by
  have h : ofBytes (putB 8 x) = [.int .u8 ((UInt8.ofNat (x / 256 ^ 7)).toNat : Int), .int .u8 ((UInt8.ofNat (x / 256 ^ 6)).toNat : Int), .int .u8 ((UInt8.ofNat (x / 256 ^ 5)).toNat : Int), .int .u8 ((UInt8.ofNat (x / 256 ^ 4)).toNat : Int), .int .u8 ((UInt8.ofNat (x / 256 ^ 3)).toNat : Int), .int .u8 ((UInt8.ofNat (x / 256 ^ 2)).toNat : Int), .int .u8 ((UInt8.ofNat (x / 256 ^ 1)).toNat : Int), .int .u8 ((UInt8.ofNat (x / 256 ^ 0)).toNat : Int)] := rfl
  rw [h]
  have s : ∀ j, wrapA .u8 (shrN (x : Int) (8 * j)) = ((UInt8.ofNat (x / 256 ^ j)).toNat : Int) := shr_byte x
  have s0 := s 0
  have s1 := s 1
  have s2 := s 2
  have s3 := s 3
  have s4 := s 4
  have s5 := s 5
  have s6 := s 6
  have s7 := s 7
  simp only [← s0, ← s1, ← s2, ← s3, ← s4, ← s5, ← s6, ← s7]
def putRu64 : RSum := RSum.nb true fun us => match us with
  | [.fsl true 0 [], .int .u64 x] => some ([ileB 0 x, iltB x 18446744073709551616], fun n => .slice (some (n, 0)) 8 none, [.cells true 5 8 (kept (ofBytes (putB 8 x.toNat)))])
  | [.fsl false len cs, .int .u64 x] => some ([Nat.beq cs.length len, u8L cs, Nat.ble len 1000000000000, ileB 0 x, iltB x 18446744073709551616], fun n => .slice (some (n, 0)) (len + 8) none, [.cells true 5 (len + 8) (cs ++ kept (ofBytes (putB 8 x.toNat)))])
  | _ => none
theorem putRu64_ok : RSum.Sound Try.prog tys 80 putRu64 := by
  refine RSum.sound (cx_goes _ _) all03a (RSum.nb_ok fun us c v bs hm hc => ?_)
  split at hm
  · injection hm with hm; injection hm with e1 hm; injection hm with e2 e3; rw [kept_eq] at e3; subst e1; subst e2; subst e3
    simp only [allTrue_cons] at hc
    obtain ⟨c1, c2, _⟩ := hc
    obtain ⟨x, rfl⟩ := nat_of c1
    have c2 : x < 18446744073709551616 := lt_of c2
    obtain ⟨h', h, hb⟩ := putu64N x
    refine ⟨fun b hb => ?_, 60, h', [15], _, h, ?_, sel_one 15, rfl, fun n ρ hρ => ?_⟩
    · have : b = .cells true 5 8 (ofBytes (putB 8 x)) := by simpa using hb
      subst this
      simp only [Blk.plainOwn, ofBytes_plain, Bool.and_self]
    · rw [hb, cells_u64 x c2]; rfl
    · have := hρ 0 15 rfl
      simp only [AV.ren, Option.map_some, this, Nat.add_zero]
      exact AV.Le.refl _
  · rename_i len cs x
    injection hm with hm; injection hm with e1 hm; injection hm with e2 e3; rw [kept_eq] at e3; subst e1; subst e2; subst e3
    simp only [allTrue_cons] at hc
    obtain ⟨c1, c2, c3, c4, c5, _⟩ := hc
    have c1 := eq_of_beq' c1
    have c3 := le_of_ble' c3
    obtain ⟨l, rfl⟩ := u8L_iff.1 c2
    obtain ⟨x, rfl⟩ := nat_of c4
    have c5 : x < 18446744073709551616 := lt_of c5
    obtain ⟨h', h, hb⟩ := putu64 x len (ofBytes l) (ofBytes_plainL l) (beq_of c1) c2 (ble_of (by omega)) (room_of (by omega) (by omega)) (beq_of (by simp only [ofBytes_length, List.length_append, List.length_cons, List.length_nil] at c1 ⊢; omega)) (room_of (by omega) (by omega)) (beq_of (by simp only [ofBytes_length, List.length_append, List.length_cons, List.length_nil] at c1 ⊢; omega)) (room_of (by omega) (by omega)) (beq_of (by simp only [ofBytes_length, List.length_append, List.length_cons, List.length_nil] at c1 ⊢; omega)) (room_of (by omega) (by omega)) (beq_of (by simp only [ofBytes_length, List.length_append, List.length_cons, List.length_nil] at c1 ⊢; omega)) (room_of (by omega) (by omega)) (beq_of (by simp only [ofBytes_length, List.length_append, List.length_cons, List.length_nil] at c1 ⊢; omega)) (room_of (by omega) (by omega)) (beq_of (by simp only [ofBytes_length, List.length_append, List.length_cons, List.length_nil] at c1 ⊢; omega)) (room_of (by omega) (by omega)) (beq_of (by simp only [ofBytes_length, List.length_append, List.length_cons, List.length_nil] at c1 ⊢; omega)) (room_of (by omega) (by omega)) (beq_of (by simp only [ofBytes_length, List.length_append, List.length_cons, List.length_nil] at c1 ⊢; omega))
    refine ⟨fun b hb => ?_, 60, h', [16], _, h, ?_, sel_one 16, rfl, fun n ρ hρ => ?_⟩
    · have : b = .cells true 5 (len + 8) (ofBytes l ++ ofBytes (putB 8 x)) := by simpa using hb
      subst this
      rw [← ofBytes_append]
      simp only [Blk.plainOwn, ofBytes_plain, Bool.and_self]
    · rw [hb]
      try simp only [List.append_assoc, List.cons_append, List.nil_append]
      rw [cells_u64 x c5, List.length_append, c1, ofBytes_length, putB_length]; rfl
    · have := hρ 0 16 rfl
      simp only [AV.ren, Option.map_some, this, Nat.add_zero]
      exact AV.Le.refl _
  · cases hm
abbrev F03b : FTab := [(74, putRu8), (62, putRu16), (78, putRu32), (80, putRu64)] ++ F03a
theorem f03b_ok : ∀ p ∈ F03b, RSum.Sound Try.prog tys p.1 p.2 := by
  intro p h
  rcases List.mem_append.1 h with h | h
  · simp only [List.mem_cons, List.not_mem_nil, or_false] at h
    rcases h with rfl | rfl | rfl | rfl
    · exact putRu8_ok
    · exact putRu16_ok
    · exact putRu32_ok
    · exact putRu64_ok
  · exact f03a_ok p h
end Go.Proofs.Ytecncappdnhbaaa
