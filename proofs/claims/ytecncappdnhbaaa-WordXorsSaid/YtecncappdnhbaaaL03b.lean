/- Bytes: words read off bytes; the document's writing and reading. -/
import Derived.Test.YtecncappdnhbaaaL03a
set_option autoImplicit false
set_option linter.unusedVariables false
set_option linter.unusedSimpArgs false
set_option maxRecDepth 100000
noncomputable section
namespace Go.Ab
namespace M
def getI (w : Nat) (cs : List AV) : Int := kept (if w ≤ cs.length then ((getN ((bytesL cs).take w) : Nat) : Int) else 0)
end M
open M
theorem getI_ofBytes (w : Nat) (l : List UInt8) : getI w (ofBytes l) = if w ≤ l.length then ((getN (l.take w) : Nat) : Int) else 0 := by
  unfold getI; rw [kept_eq, ofBytes_length, bytesL_ofBytes]
theorem or_first (b : UInt8) : orN .u64 (Int.ofNat 0) (wrapA .u64 (Int.ofNat b.toNat)) = ((b.toNat : Nat) : Int) := by
  have hb := b.toNat_lt
  have e : wrapA .u64 (Int.ofNat b.toNat) = ((b.toNat : Nat) : Int) := wrapA_nat .u64 _ (by show _ < 18446744073709551616; omega)
  rw [e]
  have := orN_nat .u64 0 b.toNat (by decide) (by show _ < 18446744073709551616; omega)
  rw [Nat.zero_or] at this
  exact this
theorem or_step (a : Nat) (b : UInt8) (h : a < 72057594037927936) : orN .u64 (shlN .u64 (a : Int) 8) (wrapA .u64 (Int.ofNat b.toNat)) = ((a * 256 + b.toNat : Nat) : Int) := by
  have hb := b.toNat_lt
  have e : wrapA .u64 (Int.ofNat b.toNat) = ((b.toNat : Nat) : Int) := wrapA_nat .u64 _ (by show _ < 18446744073709551616; omega)
  have e2 : shlN .u64 (a : Int) 8 = ((a * 256 : Nat) : Int) := by
    rw [shlN_eq]
    have : (a : Int) * 2 ^ 8 = ((a * 256 : Nat) : Int) := by simp
    rw [this]; exact wrap_small .u64 _ (by show _ < 18446744073709551616; omega)
  rw [e, e2, orN_nat .u64 _ _ (by show _ < 18446744073709551616; omega) (by show _ < 18446744073709551616; omega)]
  congr 1
  have := Nat.shiftLeft_add_eq_or_of_lt (i := 8) (b := b.toNat) (by omega) a
  rw [Nat.shiftLeft_eq] at this
  exact this.symm
theorem add_first (b : UInt8) : wrapA .u64 ((Int.ofNat 0).add (wrapA .u64 (Int.ofNat b.toNat))) = ((b.toNat : Nat) : Int) := by
  have hb := b.toNat_lt
  have e : wrapA .u64 (Int.ofNat b.toNat) = ((b.toNat : Nat) : Int) := wrapA_nat .u64 _ (by show _ < 18446744073709551616; omega)
  rw [e]
  have : (Int.ofNat 0).add ((b.toNat : Nat) : Int) = ((b.toNat : Nat) : Int) := by show (0 : Int) + _ = _; omega
  rw [this]; exact e
theorem add_step (a : Nat) (b : UInt8) (h : a < 72057594037927936) : wrapA .u64 ((wrapA .u64 ((a : Int).mul (Int.ofNat 256))).add (wrapA .u64 (Int.ofNat b.toNat))) = ((a * 256 + b.toNat : Nat) : Int) := by
  have hb := b.toNat_lt
  have e : wrapA .u64 (Int.ofNat b.toNat) = ((b.toNat : Nat) : Int) := wrapA_nat .u64 _ (by show _ < 18446744073709551616; omega)
  have e1 : (a : Int).mul (Int.ofNat 256) = ((a * 256 : Nat) : Int) := by show (a : Int) * ((256 : Nat) : Int) = _; rw [Int.natCast_mul]
  rw [e, e1, wrapA_nat .u64 (a * 256) (by show _ < 18446744073709551616; omega)]
  have : Int.add ((a * 256 : Nat) : Int) ((b.toNat : Nat) : Int) = ((a * 256 + b.toNat : Nat) : Int) := by show ((a * 256 : Nat) : Int) + ((b.toNat : Nat) : Int) = _; rw [Int.natCast_add]
  rw [this]; exact wrapA_nat .u64 _ (by show _ < 18446744073709551616; omega)
theorem div_step (y : Nat) (h : y < 18446744073709551616) : wrapA .u64 ((y : Int).tdiv (Int.ofNat 256)) = ((y / 256 : Nat) : Int) := by
  have e : (y : Int).tdiv (Int.ofNat 256) = ((y / 256 : Nat) : Int) := rfl
  rw [e]; exact wrapA_nat .u64 _ (by show _ < 18446744073709551616; omega)
theorem low_byte (y : Nat) : wrapA .u8 ((y : Int).tmod (Int.ofNat 256)) = ((UInt8.ofNat y).toNat : Int) := by
  have e : (y : Int).tmod (Int.ofNat 256) = ((y % 256 : Nat) : Int) := rfl
  have h : (UInt8.ofNat y).toNat = y % 256 := by simp
  rw [e, h]; exact wrapA_nat .u8 _ (Nat.mod_lt _ (by decide))
end Go.Ab
namespace Go.Proofs.Ytecncappdnhbaaa
open Go.Ab.M Go.Ab Go
theorem getu8A (nl : Bool) (len : Nat) (l : List UInt8) (h0 : (iltB (Int.ofNat len) (Int.ofNat 1)) = true) :
    ∃ h', aCall C01 60 (Tgt.fn 75) [AV.fsl nl len (ofBytes l)] H0 = some (AV.tuple [AV.int IntKind.u8 (Int.ofNat 0), AV.bool false], h') ∧ [].map h'.get = [] :=
  call_run (q := (oc 1 (.y :: []))) (c := (Cnd.tst _ true :: [])) (by kernel_rfl) ⟨h0, trivial⟩
theorem getu8B (nl : Bool) (len : Nat) (b0 : UInt8) (cs : List AV) (h0 : (iltB (Int.ofNat len) (Int.ofNat 1)) = false) (h1 : ((AV.int IntKind.u8 (Int.ofNat b0.toNat) :: cs).length.beq (len.mul 1)) = true) (h2 : (Nat.ble 1 len) = true) :
    ∃ h', aCall C01 60 (Tgt.fn 75) [AV.fsl nl len (AV.int IntKind.u8 (Int.ofNat b0.toNat) :: cs)] H0 = some (AV.tuple [AV.int IntKind.u8 (wrapA IntKind.u8 (orN IntKind.u64 (Int.ofNat 0) (wrapA IntKind.u64 (AV.int IntKind.u8 (Int.ofNat b0.toNat)).intOf))), AV.bool true], h') ∧ [].map h'.get = [] :=
  call_run (q := (oc 1 (.z :: (.y :: (oc 1 (.y :: (oc 8 []))))))) (c := (Cnd.tst _ false :: Cnd.tst _ true :: Cnd.tst _ true :: [])) (by kernel_rfl) ⟨h0, h1, h2, trivial⟩
def getRu8 : RSum := RSum.pl true fun us => match us with
  | [.fsl nl len cs] => some ([Nat.beq cs.length len, u8L cs], .tuple [.int .u8 (getI 1 cs), .bool (Nat.ble 1 len)])
  | _ => none
theorem getRu8_ok : RSum.Sound Try.prog tys 75 getRu8 := by
  refine RSum.sound (cx_goes _ _) all01 (RSum.pl_ok fun us c v hm hc => ?_)
  split at hm
  · rename_i nl len cs
    injection hm with hm; injection hm with e1 e2; subst e1; subst e2
    simp only [allTrue_cons] at hc
    obtain ⟨c1, c2, _⟩ := hc
    have c1 := eq_of_beq' c1
    obtain ⟨l, rfl⟩ := u8L_iff.1 c2
    rw [ofBytes_length] at c1
    refine ⟨rfl, 60, ?_⟩
    rw [getI_ofBytes]
    by_cases hl : 1 ≤ l.length
    · rw [if_pos hl, ble_of (by omega)]
      have hil : iltB (Int.ofNat len) (Int.ofNat 1) = false := by rw [iltB_eq]; exact decide_eq_false (by show ¬ (len : Int) < ((1 : Nat) : Int); omega)
      rcases l with _ | ⟨b0, l⟩
      · simp at hl; try omega
      obtain ⟨h', h, _⟩ := getu8B nl len b0 (ofBytes l) hil (beq_of1 (by simp only [List.length_cons, ofBytes_length] at c1 ⊢; omega)) (ble_of (by simp only [List.length_cons] at c1; omega))
      have q0 := b0.toNat_lt;
      refine ⟨h', ?_⟩
      refine Eq.trans h ?_
      simp only [AV.intOf]
      rw [or_first b0, wrapA_nat .u8 _ (by show _ < 256; omega)]
      have hg : getN (List.take 1 (b0 :: l)) = b0.toNat := by simp [getN]
      rw [hg]
    · rw [if_neg hl]
      obtain ⟨h', h, _⟩ := getu8A nl len (ofBytes l |> fun _ => l) (by rw [iltB_eq]; exact decide_eq_true (by show (len : Int) < ((1 : Nat) : Int); omega))
      have : Nat.ble 1 len = false := by rw [nble]; exact decide_eq_false (by omega)
      rw [this]; exact ⟨h', h⟩
  · cases hm
theorem getu16A (nl : Bool) (len : Nat) (l : List UInt8) (h0 : (iltB (Int.ofNat len) (Int.ofNat 2)) = true) :
    ∃ h', aCall C01 60 (Tgt.fn 77) [AV.fsl nl len (ofBytes l)] H0 = some (AV.tuple [AV.int IntKind.u16 (Int.ofNat 0), AV.bool false], h') ∧ [].map h'.get = [] :=
  call_run (q := (oc 1 (.y :: []))) (c := (Cnd.tst _ true :: [])) (by kernel_rfl) ⟨h0, trivial⟩
theorem getu16B (nl : Bool) (len : Nat) (b0 : UInt8) (b1 : UInt8) (cs : List AV) (h0 : (iltB (Int.ofNat len) (Int.ofNat 2)) = false) (h1 : ((AV.int IntKind.u8 (Int.ofNat b0.toNat) :: AV.int IntKind.u8 (Int.ofNat b1.toNat) :: cs).length.beq (len.mul 1)) = true) (h2 : (Nat.ble 2 len) = true) :
    ∃ h', aCall C01 60 (Tgt.fn 77) [AV.fsl nl len (AV.int IntKind.u8 (Int.ofNat b0.toNat) :: AV.int IntKind.u8 (Int.ofNat b1.toNat) :: cs)] H0 = some (AV.tuple [AV.int IntKind.u16 (wrapA IntKind.u16 (orN IntKind.u64 (shlN IntKind.u64 (orN IntKind.u64 (Int.ofNat 0) (wrapA IntKind.u64 (AV.int IntKind.u8 (Int.ofNat b0.toNat)).intOf)) 8) (wrapA IntKind.u64 (AV.int IntKind.u8 (Int.ofNat b1.toNat)).intOf))), AV.bool true], h') ∧ [].map h'.get = [] :=
  call_run (q := (oc 1 (.z :: (.y :: (oc 1 (.y :: (oc 15 []))))))) (c := (Cnd.tst _ false :: Cnd.tst _ true :: Cnd.tst _ true :: [])) (by kernel_rfl) ⟨h0, h1, h2, trivial⟩
def getRu16 : RSum := RSum.pl true fun us => match us with
  | [.fsl nl len cs] => some ([Nat.beq cs.length len, u8L cs], .tuple [.int .u16 (getI 2 cs), .bool (Nat.ble 2 len)])
  | _ => none
theorem getRu16_ok : RSum.Sound Try.prog tys 77 getRu16 := by
  refine RSum.sound (cx_goes _ _) all01 (RSum.pl_ok fun us c v hm hc => ?_)
  split at hm
  · rename_i nl len cs
    injection hm with hm; injection hm with e1 e2; subst e1; subst e2
    simp only [allTrue_cons] at hc
    obtain ⟨c1, c2, _⟩ := hc
    have c1 := eq_of_beq' c1
    obtain ⟨l, rfl⟩ := u8L_iff.1 c2
    rw [ofBytes_length] at c1
    refine ⟨rfl, 60, ?_⟩
    rw [getI_ofBytes]
    by_cases hl : 2 ≤ l.length
    · rw [if_pos hl, ble_of (by omega)]
      have hil : iltB (Int.ofNat len) (Int.ofNat 2) = false := by rw [iltB_eq]; exact decide_eq_false (by show ¬ (len : Int) < ((2 : Nat) : Int); omega)
      rcases l with _ | ⟨b0, l⟩
      · simp at hl; try omega
      rcases l with _ | ⟨b1, l⟩
      · simp at hl; try omega
      obtain ⟨h', h, _⟩ := getu16B nl len b0 b1 (ofBytes l) hil (beq_of1 (by simp only [List.length_cons, ofBytes_length] at c1 ⊢; omega)) (ble_of (by simp only [List.length_cons] at c1; omega))
      have q0 := b0.toNat_lt; have q1 := b1.toNat_lt;
      refine ⟨h', ?_⟩
      refine Eq.trans h ?_
      simp only [AV.intOf]
      rw [or_first b0, or_step (b0.toNat) b1 (by omega), wrapA_nat .u16 _ (by show _ < 65536; omega)]
      have hg : getN (List.take 2 (b0 :: b1 :: l)) = (b0.toNat * 256 + b1.toNat) := by simp [getN]
      rw [hg]
    · rw [if_neg hl]
      obtain ⟨h', h, _⟩ := getu16A nl len (ofBytes l |> fun _ => l) (by rw [iltB_eq]; exact decide_eq_true (by show (len : Int) < ((2 : Nat) : Int); omega))
      have : Nat.ble 2 len = false := by rw [nble]; exact decide_eq_false (by omega)
      rw [this]; exact ⟨h', h⟩
  · cases hm
theorem getu32A (nl : Bool) (len : Nat) (l : List UInt8) (h0 : (iltB (Int.ofNat len) (Int.ofNat 4)) = true) :
    ∃ h', aCall C01 60 (Tgt.fn 79) [AV.fsl nl len (ofBytes l)] H0 = some (AV.tuple [AV.int IntKind.u32 (Int.ofNat 0), AV.bool false], h') ∧ [].map h'.get = [] :=
  call_run (q := (oc 1 (.y :: []))) (c := (Cnd.tst _ true :: [])) (by kernel_rfl) ⟨h0, trivial⟩
theorem getu32B (nl : Bool) (len : Nat) (b0 : UInt8) (b1 : UInt8) (b2 : UInt8) (b3 : UInt8) (cs : List AV) (h0 : (iltB (Int.ofNat len) (Int.ofNat 4)) = false) (h1 : ((AV.int IntKind.u8 (Int.ofNat b0.toNat) :: AV.int IntKind.u8 (Int.ofNat b1.toNat) :: AV.int IntKind.u8 (Int.ofNat b2.toNat) :: AV.int IntKind.u8 (Int.ofNat b3.toNat) :: cs).length.beq (len.mul 1)) = true) (h2 : (Nat.ble 4 len) = true) :
    ∃ h', aCall C01 60 (Tgt.fn 79) [AV.fsl nl len (AV.int IntKind.u8 (Int.ofNat b0.toNat) :: AV.int IntKind.u8 (Int.ofNat b1.toNat) :: AV.int IntKind.u8 (Int.ofNat b2.toNat) :: AV.int IntKind.u8 (Int.ofNat b3.toNat) :: cs)] H0 = some (AV.tuple [AV.int IntKind.u32 (wrapA IntKind.u32 (orN IntKind.u64 (shlN IntKind.u64 (orN IntKind.u64 (shlN IntKind.u64 (orN IntKind.u64 (shlN IntKind.u64 (orN IntKind.u64 (Int.ofNat 0) (wrapA IntKind.u64 (AV.int IntKind.u8 (Int.ofNat b0.toNat)).intOf)) 8) (wrapA IntKind.u64 (AV.int IntKind.u8 (Int.ofNat b1.toNat)).intOf)) 8) (wrapA IntKind.u64 (AV.int IntKind.u8 (Int.ofNat b2.toNat)).intOf)) 8) (wrapA IntKind.u64 (AV.int IntKind.u8 (Int.ofNat b3.toNat)).intOf))), AV.bool true], h') ∧ [].map h'.get = [] :=
  call_run (q := (oc 1 (.z :: (.y :: (oc 1 (.y :: (oc 29 []))))))) (c := (Cnd.tst _ false :: Cnd.tst _ true :: Cnd.tst _ true :: [])) (by kernel_rfl) ⟨h0, h1, h2, trivial⟩
def getRu32 : RSum := RSum.pl true fun us => match us with
  | [.fsl nl len cs] => some ([Nat.beq cs.length len, u8L cs], .tuple [.int .u32 (getI 4 cs), .bool (Nat.ble 4 len)])
  | _ => none
theorem getRu32_ok : RSum.Sound Try.prog tys 79 getRu32 := by
  refine RSum.sound (cx_goes _ _) all01 (RSum.pl_ok fun us c v hm hc => ?_)
  split at hm
  · rename_i nl len cs
    injection hm with hm; injection hm with e1 e2; subst e1; subst e2
    simp only [allTrue_cons] at hc
    obtain ⟨c1, c2, _⟩ := hc
    have c1 := eq_of_beq' c1
    obtain ⟨l, rfl⟩ := u8L_iff.1 c2
    rw [ofBytes_length] at c1
    refine ⟨rfl, 60, ?_⟩
    rw [getI_ofBytes]
    by_cases hl : 4 ≤ l.length
    · rw [if_pos hl, ble_of (by omega)]
      have hil : iltB (Int.ofNat len) (Int.ofNat 4) = false := by rw [iltB_eq]; exact decide_eq_false (by show ¬ (len : Int) < ((4 : Nat) : Int); omega)
      rcases l with _ | ⟨b0, l⟩
      · simp at hl; try omega
      rcases l with _ | ⟨b1, l⟩
      · simp at hl; try omega
      rcases l with _ | ⟨b2, l⟩
      · simp at hl; try omega
      rcases l with _ | ⟨b3, l⟩
      · simp at hl; try omega
      obtain ⟨h', h, _⟩ := getu32B nl len b0 b1 b2 b3 (ofBytes l) hil (beq_of1 (by simp only [List.length_cons, ofBytes_length] at c1 ⊢; omega)) (ble_of (by simp only [List.length_cons] at c1; omega))
      have q0 := b0.toNat_lt; have q1 := b1.toNat_lt; have q2 := b2.toNat_lt; have q3 := b3.toNat_lt;
      refine ⟨h', ?_⟩
      refine Eq.trans h ?_
      simp only [AV.intOf]
      rw [or_first b0, or_step (b0.toNat) b1 (by omega), or_step ((b0.toNat * 256 + b1.toNat)) b2 (by omega), or_step (((b0.toNat * 256 + b1.toNat) * 256 + b2.toNat)) b3 (by omega), wrapA_nat .u32 _ (by show _ < 4294967296; omega)]
      have hg : getN (List.take 4 (b0 :: b1 :: b2 :: b3 :: l)) = (((b0.toNat * 256 + b1.toNat) * 256 + b2.toNat) * 256 + b3.toNat) := by simp [getN]
      rw [hg]
    · rw [if_neg hl]
      obtain ⟨h', h, _⟩ := getu32A nl len (ofBytes l |> fun _ => l) (by rw [iltB_eq]; exact decide_eq_true (by show (len : Int) < ((4 : Nat) : Int); omega))
      have : Nat.ble 4 len = false := by rw [nble]; exact decide_eq_false (by omega)
      rw [this]; exact ⟨h', h⟩
  · cases hm
theorem getu64A (nl : Bool) (len : Nat) (l : List UInt8) (h0 : (iltB (Int.ofNat len) (Int.ofNat 8)) = true) :
    ∃ h', aCall C01 60 (Tgt.fn 81) [AV.fsl nl len (ofBytes l)] H0 = some (AV.tuple [AV.int IntKind.u64 (Int.ofNat 0), AV.bool false], h') ∧ [].map h'.get = [] :=
  call_run (q := (oc 1 (.y :: []))) (c := (Cnd.tst _ true :: [])) (by kernel_rfl) ⟨h0, trivial⟩
theorem getu64B (nl : Bool) (len : Nat) (b0 : UInt8) (b1 : UInt8) (b2 : UInt8) (b3 : UInt8) (b4 : UInt8) (b5 : UInt8) (b6 : UInt8) (b7 : UInt8) (cs : List AV) (h0 : (iltB (Int.ofNat len) (Int.ofNat 8)) = false) (h1 : ((AV.int IntKind.u8 (Int.ofNat b0.toNat) :: AV.int IntKind.u8 (Int.ofNat b1.toNat) :: AV.int IntKind.u8 (Int.ofNat b2.toNat) :: AV.int IntKind.u8 (Int.ofNat b3.toNat) :: AV.int IntKind.u8 (Int.ofNat b4.toNat) :: AV.int IntKind.u8 (Int.ofNat b5.toNat) :: AV.int IntKind.u8 (Int.ofNat b6.toNat) :: AV.int IntKind.u8 (Int.ofNat b7.toNat) :: cs).length.beq (len.mul 1)) = true) (h2 : (Nat.ble 8 len) = true) :
    ∃ h', aCall C01 60 (Tgt.fn 81) [AV.fsl nl len (AV.int IntKind.u8 (Int.ofNat b0.toNat) :: AV.int IntKind.u8 (Int.ofNat b1.toNat) :: AV.int IntKind.u8 (Int.ofNat b2.toNat) :: AV.int IntKind.u8 (Int.ofNat b3.toNat) :: AV.int IntKind.u8 (Int.ofNat b4.toNat) :: AV.int IntKind.u8 (Int.ofNat b5.toNat) :: AV.int IntKind.u8 (Int.ofNat b6.toNat) :: AV.int IntKind.u8 (Int.ofNat b7.toNat) :: cs)] H0 = some (AV.tuple [AV.int IntKind.u64 (orN IntKind.u64 (shlN IntKind.u64 (orN IntKind.u64 (shlN IntKind.u64 (orN IntKind.u64 (shlN IntKind.u64 (orN IntKind.u64 (shlN IntKind.u64 (orN IntKind.u64 (shlN IntKind.u64 (orN IntKind.u64 (shlN IntKind.u64 (orN IntKind.u64 (shlN IntKind.u64 (orN IntKind.u64 (Int.ofNat 0) (wrapA IntKind.u64 (AV.int IntKind.u8 (Int.ofNat b0.toNat)).intOf)) 8) (wrapA IntKind.u64 (AV.int IntKind.u8 (Int.ofNat b1.toNat)).intOf)) 8) (wrapA IntKind.u64 (AV.int IntKind.u8 (Int.ofNat b2.toNat)).intOf)) 8) (wrapA IntKind.u64 (AV.int IntKind.u8 (Int.ofNat b3.toNat)).intOf)) 8) (wrapA IntKind.u64 (AV.int IntKind.u8 (Int.ofNat b4.toNat)).intOf)) 8) (wrapA IntKind.u64 (AV.int IntKind.u8 (Int.ofNat b5.toNat)).intOf)) 8) (wrapA IntKind.u64 (AV.int IntKind.u8 (Int.ofNat b6.toNat)).intOf)) 8) (wrapA IntKind.u64 (AV.int IntKind.u8 (Int.ofNat b7.toNat)).intOf)), AV.bool true], h') ∧ [].map h'.get = [] :=
  call_run (q := (oc 1 (.z :: (.y :: (oc 1 (.y :: (oc 57 []))))))) (c := (Cnd.tst _ false :: Cnd.tst _ true :: Cnd.tst _ true :: [])) (by kernel_rfl) ⟨h0, h1, h2, trivial⟩
def getRu64 : RSum := RSum.pl true fun us => match us with
  | [.fsl nl len cs] => some ([Nat.beq cs.length len, u8L cs], .tuple [.int .u64 (getI 8 cs), .bool (Nat.ble 8 len)])
  | _ => none
theorem getRu64_ok : RSum.Sound Try.prog tys 81 getRu64 := by
  refine RSum.sound (cx_goes _ _) all01 (RSum.pl_ok fun us c v hm hc => ?_)
  split at hm
  · rename_i nl len cs
    injection hm with hm; injection hm with e1 e2; subst e1; subst e2
    simp only [allTrue_cons] at hc
    obtain ⟨c1, c2, _⟩ := hc
    have c1 := eq_of_beq' c1
    obtain ⟨l, rfl⟩ := u8L_iff.1 c2
    rw [ofBytes_length] at c1
    refine ⟨rfl, 60, ?_⟩
    rw [getI_ofBytes]
    by_cases hl : 8 ≤ l.length
    · rw [if_pos hl, ble_of (by omega)]
      have hil : iltB (Int.ofNat len) (Int.ofNat 8) = false := by rw [iltB_eq]; exact decide_eq_false (by show ¬ (len : Int) < ((8 : Nat) : Int); omega)
      rcases l with _ | ⟨b0, l⟩
      · simp at hl; try omega
      rcases l with _ | ⟨b1, l⟩
      · simp at hl; try omega
      rcases l with _ | ⟨b2, l⟩
      · simp at hl; try omega
      rcases l with _ | ⟨b3, l⟩
      · simp at hl; try omega
      rcases l with _ | ⟨b4, l⟩
      · simp at hl; try omega
      rcases l with _ | ⟨b5, l⟩
      · simp at hl; try omega
      rcases l with _ | ⟨b6, l⟩
      · simp at hl; try omega
      rcases l with _ | ⟨b7, l⟩
      · simp at hl; try omega
      obtain ⟨h', h, _⟩ := getu64B nl len b0 b1 b2 b3 b4 b5 b6 b7 (ofBytes l) hil (beq_of1 (by simp only [List.length_cons, ofBytes_length] at c1 ⊢; omega)) (ble_of (by simp only [List.length_cons] at c1; omega))
      have q0 := b0.toNat_lt; have q1 := b1.toNat_lt; have q2 := b2.toNat_lt; have q3 := b3.toNat_lt; have q4 := b4.toNat_lt; have q5 := b5.toNat_lt; have q6 := b6.toNat_lt; have q7 := b7.toNat_lt;
      refine ⟨h', ?_⟩
      refine Eq.trans h ?_
      simp only [AV.intOf]
      rw [or_first b0, or_step (b0.toNat) b1 (by omega), or_step ((b0.toNat * 256 + b1.toNat)) b2 (by omega), or_step (((b0.toNat * 256 + b1.toNat) * 256 + b2.toNat)) b3 (by omega), or_step ((((b0.toNat * 256 + b1.toNat) * 256 + b2.toNat) * 256 + b3.toNat)) b4 (by omega), or_step (((((b0.toNat * 256 + b1.toNat) * 256 + b2.toNat) * 256 + b3.toNat) * 256 + b4.toNat)) b5 (by omega), or_step ((((((b0.toNat * 256 + b1.toNat) * 256 + b2.toNat) * 256 + b3.toNat) * 256 + b4.toNat) * 256 + b5.toNat)) b6 (by omega), or_step (((((((b0.toNat * 256 + b1.toNat) * 256 + b2.toNat) * 256 + b3.toNat) * 256 + b4.toNat) * 256 + b5.toNat) * 256 + b6.toNat)) b7 (by omega)]
      have hg : getN (List.take 8 (b0 :: b1 :: b2 :: b3 :: b4 :: b5 :: b6 :: b7 :: l)) = (((((((b0.toNat * 256 + b1.toNat) * 256 + b2.toNat) * 256 + b3.toNat) * 256 + b4.toNat) * 256 + b5.toNat) * 256 + b6.toNat) * 256 + b7.toNat) := by simp [getN]
      rw [hg]
    · rw [if_neg hl]
      obtain ⟨h', h, _⟩ := getu64A nl len (ofBytes l |> fun _ => l) (by rw [iltB_eq]; exact decide_eq_true (by show (len : Int) < ((8 : Nat) : Int); omega))
      have : Nat.ble 8 len = false := by rw [nble]; exact decide_eq_false (by omega)
      rw [this]; exact ⟨h', h⟩
  · cases hm
def isW (w : Nat) : Bool := Nat.beq w 1 || Nat.beq w 2 || Nat.beq w 4 || Nat.beq w 8
theorem isW_cases {w : Nat} (h : isW w = true) : w = 1 ∨ w = 2 ∨ w = 4 ∨ w = 8 := by
  simp only [isW, nbeq, Bool.or_eq_true, decide_eq_true_eq] at h; omega
theorem rget1A (nl : Bool) (len : Nat) (l : List UInt8) (h0 : (iltB (Int.ofNat len) (Int.ofNat 1)) = true) :
    ∃ h', aCall C01 60 (Tgt.fn 76) [AV.fsl nl len (ofBytes l), AV.int IntKind.i64 (Int.ofNat 1)] H0 = some (AV.tuple [AV.int IntKind.u64 (Int.ofNat 0), AV.bool false], h') ∧ [].map h'.get = [] :=
  call_run (q := (.y :: [])) (c := (Cnd.tst _ true :: [])) (by kernel_rfl) ⟨h0, trivial⟩
theorem rget1B (nl : Bool) (len : Nat) (b0 : UInt8) (cs : List AV) (h0 : (iltB (Int.ofNat len) (Int.ofNat 1)) = false) (h1 : (Nat.ble 1 len) = true) (h2 : ((AV.int IntKind.u8 (Int.ofNat b0.toNat) :: cs).length.beq (len.mul 1)) = true) :
    ∃ h', aCall C01 60 (Tgt.fn 76) [AV.fsl nl len (AV.int IntKind.u8 (Int.ofNat b0.toNat) :: cs), AV.int IntKind.i64 (Int.ofNat 1)] H0 = some (AV.tuple [AV.int IntKind.u64 (wrapA IntKind.u64 ((Int.ofNat 0).add (wrapA IntKind.u64 (AV.int IntKind.u8 (Int.ofNat b0.toNat)).intOf))), AV.bool true], h') ∧ [].map h'.get = [] :=
  call_run (q := (.z :: (oc 2 (.y :: (.y :: (oc 3 [])))))) (c := (Cnd.tst _ false :: Cnd.tst _ true :: Cnd.tst _ true :: [])) (by kernel_rfl) ⟨h0, h1, h2, trivial⟩
theorem rput1 (x : Int) :
    ∃ h', aCall C01 60 (Tgt.fn 49) [AV.int IntKind.u64 x, AV.int IntKind.i64 (Int.ofNat 1)] H0 = some (AV.slice (some (0, 0)) 1 (some 1), h') ∧ [0].map h'.get = [Blk.cells true 5 1 [AV.int IntKind.u8 (wrapA IntKind.u8 (x.tmod (Int.ofNat 256)))]] :=
  call_run (q := (oc 13 [])) (c := ([])) (by kernel_rfl) trivial
theorem rget2A (nl : Bool) (len : Nat) (l : List UInt8) (h0 : (iltB (Int.ofNat len) (Int.ofNat 2)) = true) :
    ∃ h', aCall C01 60 (Tgt.fn 76) [AV.fsl nl len (ofBytes l), AV.int IntKind.i64 (Int.ofNat 2)] H0 = some (AV.tuple [AV.int IntKind.u64 (Int.ofNat 0), AV.bool false], h') ∧ [].map h'.get = [] :=
  call_run (q := (.y :: [])) (c := (Cnd.tst _ true :: [])) (by kernel_rfl) ⟨h0, trivial⟩
theorem rget2B (nl : Bool) (len : Nat) (b0 : UInt8) (b1 : UInt8) (cs : List AV) (h0 : (iltB (Int.ofNat len) (Int.ofNat 2)) = false) (h1 : (Nat.ble 1 len) = true) (h2 : ((AV.int IntKind.u8 (Int.ofNat b0.toNat) :: AV.int IntKind.u8 (Int.ofNat b1.toNat) :: cs).length.beq (len.mul 1)) = true) (h3 : (Nat.ble 2 len) = true) :
    ∃ h', aCall C01 60 (Tgt.fn 76) [AV.fsl nl len (AV.int IntKind.u8 (Int.ofNat b0.toNat) :: AV.int IntKind.u8 (Int.ofNat b1.toNat) :: cs), AV.int IntKind.i64 (Int.ofNat 2)] H0 = some (AV.tuple [AV.int IntKind.u64 (wrapA IntKind.u64 ((wrapA IntKind.u64 ((wrapA IntKind.u64 ((Int.ofNat 0).add (wrapA IntKind.u64 (AV.int IntKind.u8 (Int.ofNat b0.toNat)).intOf))).mul (Int.ofNat 256))).add (wrapA IntKind.u64 (AV.int IntKind.u8 (Int.ofNat b1.toNat)).intOf))), AV.bool true], h') ∧ [].map h'.get = [] :=
  call_run (q := (.z :: (oc 2 (.y :: (.y :: (oc 4 (.y :: (.y :: (oc 3 []))))))))) (c := (Cnd.tst _ false :: Cnd.tst _ true :: Cnd.tst _ true :: Cnd.tst _ true :: Cnd.tst _ true :: [])) (by kernel_rfl) ⟨h0, h1, h2, h3, h2, trivial⟩
theorem rput2 (x : Int) :
    ∃ h', aCall C01 60 (Tgt.fn 49) [AV.int IntKind.u64 x, AV.int IntKind.i64 (Int.ofNat 2)] H0 = some (AV.slice (some (0, 0)) 2 (some 2), h') ∧ [0].map h'.get = [Blk.cells true 5 2 [AV.int IntKind.u8 (wrapA IntKind.u8 ((wrapA IntKind.u64 (x.tdiv (Int.ofNat 256))).tmod (Int.ofNat 256))), AV.int IntKind.u8 (wrapA IntKind.u8 (x.tmod (Int.ofNat 256)))]] :=
  call_run (q := (oc 21 [])) (c := ([])) (by kernel_rfl) trivial
theorem rget4A (nl : Bool) (len : Nat) (l : List UInt8) (h0 : (iltB (Int.ofNat len) (Int.ofNat 4)) = true) :
    ∃ h', aCall C01 60 (Tgt.fn 76) [AV.fsl nl len (ofBytes l), AV.int IntKind.i64 (Int.ofNat 4)] H0 = some (AV.tuple [AV.int IntKind.u64 (Int.ofNat 0), AV.bool false], h') ∧ [].map h'.get = [] :=
  call_run (q := (.y :: [])) (c := (Cnd.tst _ true :: [])) (by kernel_rfl) ⟨h0, trivial⟩
theorem rget4B (nl : Bool) (len : Nat) (b0 : UInt8) (b1 : UInt8) (b2 : UInt8) (b3 : UInt8) (cs : List AV) (h0 : (iltB (Int.ofNat len) (Int.ofNat 4)) = false) (h1 : (Nat.ble 1 len) = true) (h2 : ((AV.int IntKind.u8 (Int.ofNat b0.toNat) :: AV.int IntKind.u8 (Int.ofNat b1.toNat) :: AV.int IntKind.u8 (Int.ofNat b2.toNat) :: AV.int IntKind.u8 (Int.ofNat b3.toNat) :: cs).length.beq (len.mul 1)) = true) (h3 : (Nat.ble 2 len) = true) (h4 : (Nat.ble 3 len) = true) (h5 : (Nat.ble 4 len) = true) :
    ∃ h', aCall C01 60 (Tgt.fn 76) [AV.fsl nl len (AV.int IntKind.u8 (Int.ofNat b0.toNat) :: AV.int IntKind.u8 (Int.ofNat b1.toNat) :: AV.int IntKind.u8 (Int.ofNat b2.toNat) :: AV.int IntKind.u8 (Int.ofNat b3.toNat) :: cs), AV.int IntKind.i64 (Int.ofNat 4)] H0 = some (AV.tuple [AV.int IntKind.u64 (wrapA IntKind.u64 ((wrapA IntKind.u64 ((wrapA IntKind.u64 ((wrapA IntKind.u64 ((wrapA IntKind.u64 ((wrapA IntKind.u64 ((wrapA IntKind.u64 ((Int.ofNat 0).add (wrapA IntKind.u64 (AV.int IntKind.u8 (Int.ofNat b0.toNat)).intOf))).mul (Int.ofNat 256))).add (wrapA IntKind.u64 (AV.int IntKind.u8 (Int.ofNat b1.toNat)).intOf))).mul (Int.ofNat 256))).add (wrapA IntKind.u64 (AV.int IntKind.u8 (Int.ofNat b2.toNat)).intOf))).mul (Int.ofNat 256))).add (wrapA IntKind.u64 (AV.int IntKind.u8 (Int.ofNat b3.toNat)).intOf))), AV.bool true], h') ∧ [].map h'.get = [] :=
  call_run (q := (.z :: (oc 2 (.y :: (.y :: (oc 4 (.y :: (.y :: (oc 4 (.y :: (.y :: (oc 4 (.y :: (.y :: (oc 3 []))))))))))))))) (c := (Cnd.tst _ false :: Cnd.tst _ true :: Cnd.tst _ true :: Cnd.tst _ true :: Cnd.tst _ true :: Cnd.tst _ true :: Cnd.tst _ true :: Cnd.tst _ true :: Cnd.tst _ true :: [])) (by kernel_rfl) ⟨h0, h1, h2, h3, h2, h4, h2, h5, h2, trivial⟩
theorem rput4 (x : Int) :
    ∃ h', aCall C01 60 (Tgt.fn 49) [AV.int IntKind.u64 x, AV.int IntKind.i64 (Int.ofNat 4)] H0 = some (AV.slice (some (0, 0)) 4 (some 4), h') ∧ [0].map h'.get = [Blk.cells true 5 4 [AV.int IntKind.u8 (wrapA IntKind.u8 ((wrapA IntKind.u64 ((wrapA IntKind.u64 ((wrapA IntKind.u64 (x.tdiv (Int.ofNat 256))).tdiv (Int.ofNat 256))).tdiv (Int.ofNat 256))).tmod (Int.ofNat 256))), AV.int IntKind.u8 (wrapA IntKind.u8 ((wrapA IntKind.u64 ((wrapA IntKind.u64 (x.tdiv (Int.ofNat 256))).tdiv (Int.ofNat 256))).tmod (Int.ofNat 256))), AV.int IntKind.u8 (wrapA IntKind.u8 ((wrapA IntKind.u64 (x.tdiv (Int.ofNat 256))).tmod (Int.ofNat 256))), AV.int IntKind.u8 (wrapA IntKind.u8 (x.tmod (Int.ofNat 256)))]] :=
  call_run (q := (oc 37 [])) (c := ([])) (by kernel_rfl) trivial
theorem rget8A (nl : Bool) (len : Nat) (l : List UInt8) (h0 : (iltB (Int.ofNat len) (Int.ofNat 8)) = true) :
    ∃ h', aCall C01 60 (Tgt.fn 76) [AV.fsl nl len (ofBytes l), AV.int IntKind.i64 (Int.ofNat 8)] H0 = some (AV.tuple [AV.int IntKind.u64 (Int.ofNat 0), AV.bool false], h') ∧ [].map h'.get = [] :=
  call_run (q := (.y :: [])) (c := (Cnd.tst _ true :: [])) (by kernel_rfl) ⟨h0, trivial⟩
theorem rget8B (nl : Bool) (len : Nat) (b0 : UInt8) (b1 : UInt8) (b2 : UInt8) (b3 : UInt8) (b4 : UInt8) (b5 : UInt8) (b6 : UInt8) (b7 : UInt8) (cs : List AV) (h0 : (iltB (Int.ofNat len) (Int.ofNat 8)) = false) (h1 : (Nat.ble 1 len) = true) (h2 : ((AV.int IntKind.u8 (Int.ofNat b0.toNat) :: AV.int IntKind.u8 (Int.ofNat b1.toNat) :: AV.int IntKind.u8 (Int.ofNat b2.toNat) :: AV.int IntKind.u8 (Int.ofNat b3.toNat) :: AV.int IntKind.u8 (Int.ofNat b4.toNat) :: AV.int IntKind.u8 (Int.ofNat b5.toNat) :: AV.int IntKind.u8 (Int.ofNat b6.toNat) :: AV.int IntKind.u8 (Int.ofNat b7.toNat) :: cs).length.beq (len.mul 1)) = true) (h3 : (Nat.ble 2 len) = true) (h4 : (Nat.ble 3 len) = true) (h5 : (Nat.ble 4 len) = true) (h6 : (Nat.ble 5 len) = true) (h7 : (Nat.ble 6 len) = true) (h8 : (Nat.ble 7 len) = true) (h9 : (Nat.ble 8 len) = true) :
    ∃ h', aCall C01 60 (Tgt.fn 76) [AV.fsl nl len (AV.int IntKind.u8 (Int.ofNat b0.toNat) :: AV.int IntKind.u8 (Int.ofNat b1.toNat) :: AV.int IntKind.u8 (Int.ofNat b2.toNat) :: AV.int IntKind.u8 (Int.ofNat b3.toNat) :: AV.int IntKind.u8 (Int.ofNat b4.toNat) :: AV.int IntKind.u8 (Int.ofNat b5.toNat) :: AV.int IntKind.u8 (Int.ofNat b6.toNat) :: AV.int IntKind.u8 (Int.ofNat b7.toNat) :: cs), AV.int IntKind.i64 (Int.ofNat 8)] H0 = some (AV.tuple [AV.int IntKind.u64 (wrapA IntKind.u64 ((wrapA IntKind.u64 ((wrapA IntKind.u64 ((wrapA IntKind.u64 ((wrapA IntKind.u64 ((wrapA IntKind.u64 ((wrapA IntKind.u64 ((wrapA IntKind.u64 ((wrapA IntKind.u64 ((wrapA IntKind.u64 ((wrapA IntKind.u64 ((wrapA IntKind.u64 ((wrapA IntKind.u64 ((wrapA IntKind.u64 ((wrapA IntKind.u64 ((Int.ofNat 0).add (wrapA IntKind.u64 (AV.int IntKind.u8 (Int.ofNat b0.toNat)).intOf))).mul (Int.ofNat 256))).add (wrapA IntKind.u64 (AV.int IntKind.u8 (Int.ofNat b1.toNat)).intOf))).mul (Int.ofNat 256))).add (wrapA IntKind.u64 (AV.int IntKind.u8 (Int.ofNat b2.toNat)).intOf))).mul (Int.ofNat 256))).add (wrapA IntKind.u64 (AV.int IntKind.u8 (Int.ofNat b3.toNat)).intOf))).mul (Int.ofNat 256))).add (wrapA IntKind.u64 (AV.int IntKind.u8 (Int.ofNat b4.toNat)).intOf))).mul (Int.ofNat 256))).add (wrapA IntKind.u64 (AV.int IntKind.u8 (Int.ofNat b5.toNat)).intOf))).mul (Int.ofNat 256))).add (wrapA IntKind.u64 (AV.int IntKind.u8 (Int.ofNat b6.toNat)).intOf))).mul (Int.ofNat 256))).add (wrapA IntKind.u64 (AV.int IntKind.u8 (Int.ofNat b7.toNat)).intOf))), AV.bool true], h') ∧ [].map h'.get = [] :=
  call_run (q := (.z :: (oc 2 (.y :: (.y :: (oc 4 (.y :: (.y :: (oc 4 (.y :: (.y :: (oc 4 (.y :: (.y :: (oc 4 (.y :: (.y :: (oc 4 (.y :: (.y :: (oc 4 (.y :: (.y :: (oc 4 (.y :: (.y :: (oc 3 []))))))))))))))))))))))))))) (c := (Cnd.tst _ false :: Cnd.tst _ true :: Cnd.tst _ true :: Cnd.tst _ true :: Cnd.tst _ true :: Cnd.tst _ true :: Cnd.tst _ true :: Cnd.tst _ true :: Cnd.tst _ true :: Cnd.tst _ true :: Cnd.tst _ true :: Cnd.tst _ true :: Cnd.tst _ true :: Cnd.tst _ true :: Cnd.tst _ true :: Cnd.tst _ true :: Cnd.tst _ true :: [])) (by kernel_rfl) ⟨h0, h1, h2, h3, h2, h4, h2, h5, h2, h6, h2, h7, h2, h8, h2, h9, h2, trivial⟩
theorem rput8 (x : Int) :
    ∃ h', aCall C01 60 (Tgt.fn 49) [AV.int IntKind.u64 x, AV.int IntKind.i64 (Int.ofNat 8)] H0 = some (AV.slice (some (0, 0)) 8 (some 8), h') ∧ [0].map h'.get = [Blk.cells true 5 8 [AV.int IntKind.u8 (wrapA IntKind.u8 ((wrapA IntKind.u64 ((wrapA IntKind.u64 ((wrapA IntKind.u64 ((wrapA IntKind.u64 ((wrapA IntKind.u64 ((wrapA IntKind.u64 ((wrapA IntKind.u64 (x.tdiv (Int.ofNat 256))).tdiv (Int.ofNat 256))).tdiv (Int.ofNat 256))).tdiv (Int.ofNat 256))).tdiv (Int.ofNat 256))).tdiv (Int.ofNat 256))).tdiv (Int.ofNat 256))).tmod (Int.ofNat 256))), AV.int IntKind.u8 (wrapA IntKind.u8 ((wrapA IntKind.u64 ((wrapA IntKind.u64 ((wrapA IntKind.u64 ((wrapA IntKind.u64 ((wrapA IntKind.u64 ((wrapA IntKind.u64 (x.tdiv (Int.ofNat 256))).tdiv (Int.ofNat 256))).tdiv (Int.ofNat 256))).tdiv (Int.ofNat 256))).tdiv (Int.ofNat 256))).tdiv (Int.ofNat 256))).tmod (Int.ofNat 256))), AV.int IntKind.u8 (wrapA IntKind.u8 ((wrapA IntKind.u64 ((wrapA IntKind.u64 ((wrapA IntKind.u64 ((wrapA IntKind.u64 ((wrapA IntKind.u64 (x.tdiv (Int.ofNat 256))).tdiv (Int.ofNat 256))).tdiv (Int.ofNat 256))).tdiv (Int.ofNat 256))).tdiv (Int.ofNat 256))).tmod (Int.ofNat 256))), AV.int IntKind.u8 (wrapA IntKind.u8 ((wrapA IntKind.u64 ((wrapA IntKind.u64 ((wrapA IntKind.u64 ((wrapA IntKind.u64 (x.tdiv (Int.ofNat 256))).tdiv (Int.ofNat 256))).tdiv (Int.ofNat 256))).tdiv (Int.ofNat 256))).tmod (Int.ofNat 256))), AV.int IntKind.u8 (wrapA IntKind.u8 ((wrapA IntKind.u64 ((wrapA IntKind.u64 ((wrapA IntKind.u64 (x.tdiv (Int.ofNat 256))).tdiv (Int.ofNat 256))).tdiv (Int.ofNat 256))).tmod (Int.ofNat 256))), AV.int IntKind.u8 (wrapA IntKind.u8 ((wrapA IntKind.u64 ((wrapA IntKind.u64 (x.tdiv (Int.ofNat 256))).tdiv (Int.ofNat 256))).tmod (Int.ofNat 256))), AV.int IntKind.u8 (wrapA IntKind.u8 ((wrapA IntKind.u64 (x.tdiv (Int.ofNat 256))).tmod (Int.ofNat 256))), AV.int IntKind.u8 (wrapA IntKind.u8 (x.tmod (Int.ofNat 256)))]] :=
  call_run (q := (oc 69 [])) (c := ([])) (by kernel_rfl) trivial
def rgetR : RSum := RSum.pl true fun us => match us with
  | [.fsl nl len cs, .int .i64 (.ofNat w)] => some ([Nat.beq cs.length len, u8L cs, isW w], .tuple [.int .u64 (getI w cs), .bool (Nat.ble w len)])
  | _ => none
theorem rgetR_ok : RSum.Sound Try.prog tys 76 rgetR := by
  refine RSum.sound (cx_goes _ _) all01 (RSum.pl_ok fun us c v hm hc => ?_)
  split at hm
  · rename_i nl len cs w
    injection hm with hm; injection hm with e1 e2; subst e1; subst e2
    simp only [allTrue_cons] at hc
    obtain ⟨c1, c2, c3, _⟩ := hc
    have c1 := eq_of_beq' c1
    obtain ⟨l, rfl⟩ := u8L_iff.1 c2
    rw [ofBytes_length] at c1
    refine ⟨rfl, 60, ?_⟩
    rw [getI_ofBytes]
    by_cases hl : w ≤ l.length
    · rw [if_pos hl, ble_of (by omega)]
      have hil : iltB (Int.ofNat len) (Int.ofNat w) = false := by rw [iltB_eq]; exact decide_eq_false (by show ¬ (len : Int) < ((w : Nat) : Int); omega)
      rcases isW_cases c3 with rfl | rfl | rfl | rfl
      · rcases l with _ | ⟨b0, l⟩
        · simp at hl; try omega
        obtain ⟨h', h, _⟩ := rget1B nl len b0 (ofBytes l) hil (ble_of (by simp only [List.length_cons] at c1; omega)) (beq_of1 (by simp only [List.length_cons, ofBytes_length] at c1 ⊢; omega)) 
        have q0 := b0.toNat_lt;
        refine ⟨h', Eq.trans h ?_⟩
        simp only [AV.intOf]
        rw [add_first b0]
        have hg : getN (List.take 1 (b0 :: l)) = b0.toNat := by simp [getN]
        rw [hg]
      · rcases l with _ | ⟨b0, l⟩
        · simp at hl; try omega
        rcases l with _ | ⟨b1, l⟩
        · simp at hl; try omega
        obtain ⟨h', h, _⟩ := rget2B nl len b0 b1 (ofBytes l) hil (ble_of (by simp only [List.length_cons] at c1; omega)) (beq_of1 (by simp only [List.length_cons, ofBytes_length] at c1 ⊢; omega)) (ble_of (by simp only [List.length_cons] at c1; omega))
        have q0 := b0.toNat_lt; have q1 := b1.toNat_lt;
        refine ⟨h', Eq.trans h ?_⟩
        simp only [AV.intOf]
        rw [add_first b0, add_step (b0.toNat) b1 (by omega)]
        have hg : getN (List.take 2 (b0 :: b1 :: l)) = (b0.toNat * 256 + b1.toNat) := by simp [getN]
        rw [hg]
      · rcases l with _ | ⟨b0, l⟩
        · simp at hl; try omega
        rcases l with _ | ⟨b1, l⟩
        · simp at hl; try omega
        rcases l with _ | ⟨b2, l⟩
        · simp at hl; try omega
        rcases l with _ | ⟨b3, l⟩
        · simp at hl; try omega
        obtain ⟨h', h, _⟩ := rget4B nl len b0 b1 b2 b3 (ofBytes l) hil (ble_of (by simp only [List.length_cons] at c1; omega)) (beq_of1 (by simp only [List.length_cons, ofBytes_length] at c1 ⊢; omega)) (ble_of (by simp only [List.length_cons] at c1; omega)) (ble_of (by simp only [List.length_cons] at c1; omega)) (ble_of (by simp only [List.length_cons] at c1; omega))
        have q0 := b0.toNat_lt; have q1 := b1.toNat_lt; have q2 := b2.toNat_lt; have q3 := b3.toNat_lt;
        refine ⟨h', Eq.trans h ?_⟩
        simp only [AV.intOf]
        rw [add_first b0, add_step (b0.toNat) b1 (by omega), add_step ((b0.toNat * 256 + b1.toNat)) b2 (by omega), add_step (((b0.toNat * 256 + b1.toNat) * 256 + b2.toNat)) b3 (by omega)]
        have hg : getN (List.take 4 (b0 :: b1 :: b2 :: b3 :: l)) = (((b0.toNat * 256 + b1.toNat) * 256 + b2.toNat) * 256 + b3.toNat) := by simp [getN]
        rw [hg]
      · rcases l with _ | ⟨b0, l⟩
        · simp at hl; try omega
        rcases l with _ | ⟨b1, l⟩
        · simp at hl; try omega
        rcases l with _ | ⟨b2, l⟩
        · simp at hl; try omega
        rcases l with _ | ⟨b3, l⟩
        · simp at hl; try omega
        rcases l with _ | ⟨b4, l⟩
        · simp at hl; try omega
        rcases l with _ | ⟨b5, l⟩
        · simp at hl; try omega
        rcases l with _ | ⟨b6, l⟩
        · simp at hl; try omega
        rcases l with _ | ⟨b7, l⟩
        · simp at hl; try omega
        obtain ⟨h', h, _⟩ := rget8B nl len b0 b1 b2 b3 b4 b5 b6 b7 (ofBytes l) hil (ble_of (by simp only [List.length_cons] at c1; omega)) (beq_of1 (by simp only [List.length_cons, ofBytes_length] at c1 ⊢; omega)) (ble_of (by simp only [List.length_cons] at c1; omega)) (ble_of (by simp only [List.length_cons] at c1; omega)) (ble_of (by simp only [List.length_cons] at c1; omega)) (ble_of (by simp only [List.length_cons] at c1; omega)) (ble_of (by simp only [List.length_cons] at c1; omega)) (ble_of (by simp only [List.length_cons] at c1; omega)) (ble_of (by simp only [List.length_cons] at c1; omega))
        have q0 := b0.toNat_lt; have q1 := b1.toNat_lt; have q2 := b2.toNat_lt; have q3 := b3.toNat_lt; have q4 := b4.toNat_lt; have q5 := b5.toNat_lt; have q6 := b6.toNat_lt; have q7 := b7.toNat_lt;
        refine ⟨h', Eq.trans h ?_⟩
        simp only [AV.intOf]
        rw [add_first b0, add_step (b0.toNat) b1 (by omega), add_step ((b0.toNat * 256 + b1.toNat)) b2 (by omega), add_step (((b0.toNat * 256 + b1.toNat) * 256 + b2.toNat)) b3 (by omega), add_step ((((b0.toNat * 256 + b1.toNat) * 256 + b2.toNat) * 256 + b3.toNat)) b4 (by omega), add_step (((((b0.toNat * 256 + b1.toNat) * 256 + b2.toNat) * 256 + b3.toNat) * 256 + b4.toNat)) b5 (by omega), add_step ((((((b0.toNat * 256 + b1.toNat) * 256 + b2.toNat) * 256 + b3.toNat) * 256 + b4.toNat) * 256 + b5.toNat)) b6 (by omega), add_step (((((((b0.toNat * 256 + b1.toNat) * 256 + b2.toNat) * 256 + b3.toNat) * 256 + b4.toNat) * 256 + b5.toNat) * 256 + b6.toNat)) b7 (by omega)]
        have hg : getN (List.take 8 (b0 :: b1 :: b2 :: b3 :: b4 :: b5 :: b6 :: b7 :: l)) = (((((((b0.toNat * 256 + b1.toNat) * 256 + b2.toNat) * 256 + b3.toNat) * 256 + b4.toNat) * 256 + b5.toNat) * 256 + b6.toNat) * 256 + b7.toNat) := by simp [getN]
        rw [hg]
    · rw [if_neg hl]
      have hil : iltB (Int.ofNat len) (Int.ofNat w) = true := by rw [iltB_eq]; exact decide_eq_true (by show (len : Int) < ((w : Nat) : Int); omega)
      have : Nat.ble w len = false := by rw [nble]; exact decide_eq_false (by omega)
      rw [this]
      rcases isW_cases c3 with rfl | rfl | rfl | rfl
      · obtain ⟨h', h, _⟩ := rget1A nl len l hil; exact ⟨h', h⟩
      · obtain ⟨h', h, _⟩ := rget2A nl len l hil; exact ⟨h', h⟩
      · obtain ⟨h', h, _⟩ := rget4A nl len l hil; exact ⟨h', h⟩
      · obtain ⟨h', h, _⟩ := rget8A nl len l hil; exact ⟨h', h⟩
  · cases hm
theorem rcells1 (x : Nat) (hx : x < 18446744073709551616) : [AV.int .u8 (wrapA .u8 ((x : Int).tmod (Int.ofNat 256)))] = ofBytes (putB 1 x) := by
  have h : ofBytes (putB 1 x) = [.int .u8 ((UInt8.ofNat (x / 256 ^ 0)).toNat : Int)] := rfl
  have e0 : (x : Int) = ((x / 256 ^ 0 : Nat) : Int) := by simp

  rw [h, e0]
  try simp only [low_byte]
  try simp only [low_byte]
theorem rcells2 (x : Nat) (hx : x < 18446744073709551616) : [AV.int .u8 (wrapA .u8 ((wrapA .u64 ((x : Int).tdiv (Int.ofNat 256))).tmod (Int.ofNat 256))), AV.int .u8 (wrapA .u8 ((x : Int).tmod (Int.ofNat 256)))] = ofBytes (putB 2 x) := by
  have h : ofBytes (putB 2 x) = [.int .u8 ((UInt8.ofNat (x / 256 ^ 1)).toNat : Int), .int .u8 ((UInt8.ofNat (x / 256 ^ 0)).toNat : Int)] := rfl
  have e0 : (x : Int) = ((x / 256 ^ 0 : Nat) : Int) := by simp
  have d0 : wrapA .u64 (((x / 256 ^ 0 : Nat) : Int).tdiv (Int.ofNat 256)) = ((x / 256 ^ 1 : Nat) : Int) := by rw [div_step _ (by omega), Nat.div_div_eq_div_mul, ← Nat.pow_succ]
  rw [h, e0]
  try simp only [d0]
  try simp only [low_byte]
theorem rcells4 (x : Nat) (hx : x < 18446744073709551616) : [AV.int .u8 (wrapA .u8 ((wrapA .u64 ((wrapA .u64 ((wrapA .u64 ((x : Int).tdiv (Int.ofNat 256))).tdiv (Int.ofNat 256))).tdiv (Int.ofNat 256))).tmod (Int.ofNat 256))), AV.int .u8 (wrapA .u8 ((wrapA .u64 ((wrapA .u64 ((x : Int).tdiv (Int.ofNat 256))).tdiv (Int.ofNat 256))).tmod (Int.ofNat 256))), AV.int .u8 (wrapA .u8 ((wrapA .u64 ((x : Int).tdiv (Int.ofNat 256))).tmod (Int.ofNat 256))), AV.int .u8 (wrapA .u8 ((x : Int).tmod (Int.ofNat 256)))] = ofBytes (putB 4 x) := by
  have h : ofBytes (putB 4 x) = [.int .u8 ((UInt8.ofNat (x / 256 ^ 3)).toNat : Int), .int .u8 ((UInt8.ofNat (x / 256 ^ 2)).toNat : Int), .int .u8 ((UInt8.ofNat (x / 256 ^ 1)).toNat : Int), .int .u8 ((UInt8.ofNat (x / 256 ^ 0)).toNat : Int)] := rfl
  have e0 : (x : Int) = ((x / 256 ^ 0 : Nat) : Int) := by simp
  have d0 : wrapA .u64 (((x / 256 ^ 0 : Nat) : Int).tdiv (Int.ofNat 256)) = ((x / 256 ^ 1 : Nat) : Int) := by rw [div_step _ (by omega), Nat.div_div_eq_div_mul, ← Nat.pow_succ]
  have d1 : wrapA .u64 (((x / 256 ^ 1 : Nat) : Int).tdiv (Int.ofNat 256)) = ((x / 256 ^ 2 : Nat) : Int) := by rw [div_step _ (by omega), Nat.div_div_eq_div_mul, ← Nat.pow_succ]
  have d2 : wrapA .u64 (((x / 256 ^ 2 : Nat) : Int).tdiv (Int.ofNat 256)) = ((x / 256 ^ 3 : Nat) : Int) := by rw [div_step _ (by omega), Nat.div_div_eq_div_mul, ← Nat.pow_succ]
  rw [h, e0]
  try simp only [d0, d1, d2]
  try simp only [low_byte]
theorem rcells8 (x : Nat) (hx : x < 18446744073709551616) : [AV.int .u8 (wrapA .u8 ((wrapA .u64 ((wrapA .u64 ((wrapA .u64 ((wrapA .u64 ((wrapA .u64 ((wrapA .u64 ((wrapA .u64 ((x : Int).tdiv (Int.ofNat 256))).tdiv (Int.ofNat 256))).tdiv (Int.ofNat 256))).tdiv (Int.ofNat 256))).tdiv (Int.ofNat 256))).tdiv (Int.ofNat 256))).tdiv (Int.ofNat 256))).tmod (Int.ofNat 256))), AV.int .u8 (wrapA .u8 ((wrapA .u64 ((wrapA .u64 ((wrapA .u64 ((wrapA .u64 ((wrapA .u64 ((wrapA .u64 ((x : Int).tdiv (Int.ofNat 256))).tdiv (Int.ofNat 256))).tdiv (Int.ofNat 256))).tdiv (Int.ofNat 256))).tdiv (Int.ofNat 256))).tdiv (Int.ofNat 256))).tmod (Int.ofNat 256))), AV.int .u8 (wrapA .u8 ((wrapA .u64 ((wrapA .u64 ((wrapA .u64 ((wrapA .u64 ((wrapA .u64 ((x : Int).tdiv (Int.ofNat 256))).tdiv (Int.ofNat 256))).tdiv (Int.ofNat 256))).tdiv (Int.ofNat 256))).tdiv (Int.ofNat 256))).tmod (Int.ofNat 256))), AV.int .u8 (wrapA .u8 ((wrapA .u64 ((wrapA .u64 ((wrapA .u64 ((wrapA .u64 ((x : Int).tdiv (Int.ofNat 256))).tdiv (Int.ofNat 256))).tdiv (Int.ofNat 256))).tdiv (Int.ofNat 256))).tmod (Int.ofNat 256))), AV.int .u8 (wrapA .u8 ((wrapA .u64 ((wrapA .u64 ((wrapA .u64 ((x : Int).tdiv (Int.ofNat 256))).tdiv (Int.ofNat 256))).tdiv (Int.ofNat 256))).tmod (Int.ofNat 256))), AV.int .u8 (wrapA .u8 ((wrapA .u64 ((wrapA .u64 ((x : Int).tdiv (Int.ofNat 256))).tdiv (Int.ofNat 256))).tmod (Int.ofNat 256))), AV.int .u8 (wrapA .u8 ((wrapA .u64 ((x : Int).tdiv (Int.ofNat 256))).tmod (Int.ofNat 256))), AV.int .u8 (wrapA .u8 ((x : Int).tmod (Int.ofNat 256)))] = ofBytes (putB 8 x) := by
  have h : ofBytes (putB 8 x) = [.int .u8 ((UInt8.ofNat (x / 256 ^ 7)).toNat : Int), .int .u8 ((UInt8.ofNat (x / 256 ^ 6)).toNat : Int), .int .u8 ((UInt8.ofNat (x / 256 ^ 5)).toNat : Int), .int .u8 ((UInt8.ofNat (x / 256 ^ 4)).toNat : Int), .int .u8 ((UInt8.ofNat (x / 256 ^ 3)).toNat : Int), .int .u8 ((UInt8.ofNat (x / 256 ^ 2)).toNat : Int), .int .u8 ((UInt8.ofNat (x / 256 ^ 1)).toNat : Int), .int .u8 ((UInt8.ofNat (x / 256 ^ 0)).toNat : Int)] := rfl
  have e0 : (x : Int) = ((x / 256 ^ 0 : Nat) : Int) := by simp
  have d0 : wrapA .u64 (((x / 256 ^ 0 : Nat) : Int).tdiv (Int.ofNat 256)) = ((x / 256 ^ 1 : Nat) : Int) := by rw [div_step _ (by omega), Nat.div_div_eq_div_mul, ← Nat.pow_succ]
  have d1 : wrapA .u64 (((x / 256 ^ 1 : Nat) : Int).tdiv (Int.ofNat 256)) = ((x / 256 ^ 2 : Nat) : Int) := by rw [div_step _ (by omega), Nat.div_div_eq_div_mul, ← Nat.pow_succ]
  have d2 : wrapA .u64 (((x / 256 ^ 2 : Nat) : Int).tdiv (Int.ofNat 256)) = ((x / 256 ^ 3 : Nat) : Int) := by rw [div_step _ (by omega), Nat.div_div_eq_div_mul, ← Nat.pow_succ]
  have d3 : wrapA .u64 (((x / 256 ^ 3 : Nat) : Int).tdiv (Int.ofNat 256)) = ((x / 256 ^ 4 : Nat) : Int) := by rw [div_step _ (by omega), Nat.div_div_eq_div_mul, ← Nat.pow_succ]
  have d4 : wrapA .u64 (((x / 256 ^ 4 : Nat) : Int).tdiv (Int.ofNat 256)) = ((x / 256 ^ 5 : Nat) : Int) := by rw [div_step _ (by omega), Nat.div_div_eq_div_mul, ← Nat.pow_succ]
  have d5 : wrapA .u64 (((x / 256 ^ 5 : Nat) : Int).tdiv (Int.ofNat 256)) = ((x / 256 ^ 6 : Nat) : Int) := by rw [div_step _ (by omega), Nat.div_div_eq_div_mul, ← Nat.pow_succ]
  have d6 : wrapA .u64 (((x / 256 ^ 6 : Nat) : Int).tdiv (Int.ofNat 256)) = ((x / 256 ^ 7 : Nat) : Int) := by rw [div_step _ (by omega), Nat.div_div_eq_div_mul, ← Nat.pow_succ]
  rw [h, e0]
  try simp only [d0, d1, d2, d3, d4, d5, d6]
  try simp only [low_byte]
def rputR : RSum := RSum.nb true fun us => match us with
  | [.int .u64 x, .int .i64 (.ofNat w)] => some ([isW w, ileB 0 x, iltB x 18446744073709551616], fun n => .slice (some (n, 0)) w (some w), [.cells true 5 w (kept (ofBytes (putB w x.toNat)))])
  | _ => none
theorem rputR_ok : RSum.Sound Try.prog tys 49 rputR := by
  refine RSum.sound (cx_goes _ _) all01 (RSum.nb_ok fun us c v bs hm hc => ?_)
  split at hm
  · rename_i x w
    injection hm with hm; injection hm with e1 hm; injection hm with e2 e3; rw [kept_eq] at e3; subst e1; subst e2; subst e3
    simp only [allTrue_cons] at hc
    obtain ⟨c1, c2, c3, _⟩ := hc
    obtain ⟨x, rfl⟩ := nat_of c2
    have c3 : x < 18446744073709551616 := lt_of c3
    refine ⟨fun b hb => ?_, ?_⟩
    · have : b = .cells true 5 w (ofBytes (putB w x)) := by simpa using hb
      subst this
      simp only [Blk.plainOwn, ofBytes_plain, Bool.and_self]
    · have fin : ∀ (n : Nat) (ρ : Nat → Nat), (∀ (l j : Nat), [0][l]? = some j → ρ j = n + l) → AV.Le ((AV.slice (some (0, 0)) w (some w)).ren ρ) (.slice (some (n, 0)) w (some w)) := by
        intro n ρ hρ
        have := hρ 0 0 rfl
        simp only [AV.ren, Option.map_some, this, Nat.add_zero]
        exact AV.Le.refl _
      rcases isW_cases c1 with rfl | rfl | rfl | rfl
      · obtain ⟨h', h, hb⟩ := rput1 x
        exact ⟨60, h', [0], _, h, by rw [hb, rcells1 x c3]; rfl, sel_one 0, rfl, fin⟩
      · obtain ⟨h', h, hb⟩ := rput2 x
        exact ⟨60, h', [0], _, h, by rw [hb, rcells2 x c3]; rfl, sel_one 0, rfl, fin⟩
      · obtain ⟨h', h, hb⟩ := rput4 x
        exact ⟨60, h', [0], _, h, by rw [hb, rcells4 x c3]; rfl, sel_one 0, rfl, fin⟩
      · obtain ⟨h', h, hb⟩ := rput8 x
        exact ⟨60, h', [0], _, h, by rw [hb, rcells8 x c3]; rfl, sel_one 0, rfl, fin⟩
  · cases hm
abbrev F03c : FTab := [(75, getRu8), (77, getRu16), (79, getRu32), (81, getRu64), (76, rgetR), (49, rputR)] ++ F03b
abbrev C03c := mkCx tys fns F03c []
abbrev S03c := mkS tys F03c []
theorem f03c_ok : ∀ p ∈ F03c, RSum.Sound Try.prog tys p.1 p.2 := by
  intro p h
  rcases List.mem_append.1 h with h | h
  · simp only [List.mem_cons, List.not_mem_nil, or_false] at h
    rcases h with rfl | rfl | rfl | rfl | rfl | rfl
    · exact getRu8_ok
    · exact getRu16_ok
    · exact getRu32_ok
    · exact getRu64_ok
    · exact rgetR_ok
    · exact rputR_ok
  · exact f03b_ok p h
theorem all03c : SumAll Try.prog C03c := sums_all f03c_ok (fun _ h => by cases h)
end Go.Proofs.Ytecncappdnhbaaa
