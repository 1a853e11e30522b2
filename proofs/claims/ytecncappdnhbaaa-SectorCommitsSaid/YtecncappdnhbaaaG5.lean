/- Texts of the abstract machine and of the laws, merged. -/
import Derived.Test.YtecncappdnhbaaaG4
import Derived.Test.YtecncappdnhbaaaG3
/- Commits: rows of the functions that say and parse them. -/
section
set_option autoImplicit false
set_option linter.unusedVariables false
set_option linter.unusedSimpArgs false
set_option maxRecDepth 100000
noncomputable section
namespace Go.Ab
open M
theorem over_ofBytes : ∀ (t z : List UInt8), t.length ≤ z.length → rowSet.over (ofBytes t) (ofBytes z) = ofBytes (t ++ z.drop t.length)
  | [], z, _ => by
    show rowSet.over [] (ofBytes z) = _
    cases z <;> rfl
  | a :: t, [], h => by simp at h
  | a :: t, b :: z, h => by
    show rowSet.over (.int .u8 a.toNat :: ofBytes t) (.int .u8 b.toNat :: ofBytes z) = _
    rw [rowSet.over, over_ofBytes t z (by simpa using h)]
    rfl
theorem rowSet0_ofBytes (t z : List UInt8) (h : t.length ≤ z.length) : rowSet (ofBytes z) 0 (ofBytes t) = ofBytes (t ++ z.drop t.length) := by
  rw [← over_ofBytes t z h]
  cases z <;> rfl
theorem at_one (l : List UInt8) (k : Nat) (h : k < l.length) : (listAt (List.drop k (ofBytes l)) 0).getD AV.undef = .int .u8 ((l.getD k 0).toNat : Int) := by
  have := at_ofBytes l k h
  rwa [show (Int.ofNat k).toNat * 1 = k from Nat.mul_one k] at this
end Go.Ab
namespace Go.Proofs.Ytecncappdnhbaaa
open Go.Ab.M Go.Ab Go
def refCy : RSum := RSum.pl true fun us => match us with
  | [.int .u8 s, .int .u8 c, .int .u64 g] => some ([ileB (Int.ofNat 0) s, ileB (Int.ofNat 0) c, ileB (Int.ofNat 0) g, iltB g (Int.ofNat 18446744073709551616), kept (rightC s c)], .str (kept (commitB s.toNat c.toNat g.toNat)))
  | _ => none
def refCn : RSum := RSum.pl true fun us => match us with
  | [.int .u8 s, .int .u8 c, .int .u64 g] => some ([kept (!rightC s c)], .str [])
  | _ => none
theorem refCy_ok : RSum.Sound Try.prog tys 42 refCy := by
  refine RSum.soundT (cx_goes _ _) all6 (RSum.pl_ok fun us q v hm hc => ?_)
  split at hm
  · rename_i s c g
    injection hm with hm; injection hm with e1 e2; subst e1; subst e2
    simp only [allTrue_cons, ileB_eq, iltB_eq, decide_eq_true_eq, kept_eq, rightC_iff] at hc
    obtain ⟨c1, c2, c3, c4, ⟨c5, c6⟩, _⟩ := hc
    have c1 : 0 ≤ s := c1
    have c2 : 0 ≤ c := c2
    have c3 : 0 ≤ g := c3
    have c4 : g < 18446744073709551616 := c4
    have e0 : (AV.int IntKind.u8 (Int.ofNat 76) :: AV.int IntKind.u8 (Int.ofNat 67) :: AV.int IntKind.u8 s :: AV.int IntKind.u8 c :: rowCut (kept (ofBytes (putB 8 g.toNat))) 0 8) = ofBytes ([UInt8.ofNat 76, UInt8.ofNat 67, UInt8.ofNat s.toNat, UInt8.ofNat c.toNat] ++ putB 8 g.toNat) := by
      rw [kept_eq, rowCut_ofBytes, List.drop_zero, List.take_of_length_le (by rw [putB_length]; omega), u8_of s c1 (by omega), u8_of c c2 (by omega)]
      rfl
    have e3 : ([UInt8.ofNat 76, UInt8.ofNat 67, UInt8.ofNat s.toNat, UInt8.ofNat c.toNat] ++ putB 8 g.toNat).length = 12 := by simp [putB_length]
    have e1 : padB 512 ([UInt8.ofNat 76, UInt8.ofNat 67, UInt8.ofNat s.toNat, UInt8.ofNat c.toNat] ++ putB 8 g.toNat) = commitB s.toNat c.toNat g.toNat := by
      unfold padB; rw [e3]; rfl
    have e2 : rowCut (ofBytes (commitB s.toNat c.toNat g.toNat)) 0 512 = ofBytes (commitB s.toNat c.toNat g.toNat) := by
      rw [rowCut_ofBytes, List.drop_zero, List.take_of_length_le (by rw [commitB_length]; omega)]
    have key := rc_ok s c g
    rw [e0, bytesL_ofBytes, e1, kept_eq (ofBytes (commitB s.toNat c.toNat g.toNat)), e2, bytesOf_ofBytes] at key
    obtain ⟨h', h, _⟩ := key (by rw [iltB_eq]; exact decide_eq_false (by show ¬ (2 : Int) < s; omega)) (by rw [iltB_eq]; exact decide_eq_false (by show ¬ (16 : Int) < c; omega)) (by rw [ileB_eq]; exact decide_eq_true c3) (by rw [iltB_eq]; exact decide_eq_true c4) (ofBytes_plainL _) (u8L_ofBytes _) (beq_of (by rw [ofBytes_length, e3])) rfl
    rw [kept_eq]
    exact ⟨rfl, 60, h', h⟩
  · cases hm
theorem refCn_ok : RSum.Sound Try.prog tys 42 refCn := by
  refine RSum.soundT (cx_goes _ _) all6 (RSum.pl_ok fun us q v hm hc => ?_)
  split at hm
  · rename_i s c g
    injection hm with hm; injection hm with e1 e2; subst e1; subst e2
    simp only [allTrue_cons, kept_eq, Bool.not_eq_true'] at hc
    have hc := hc.1
    by_cases hs : s < 3
    · have hcc : ¬ c ≤ 16 := fun h => by rw [rightC_iff.2 ⟨hs, h⟩] at hc; cases hc
      obtain ⟨h', h, _⟩ := rc_no2 s c g (by rw [iltB_eq]; exact decide_eq_false (by show ¬ (2 : Int) < s; omega)) (by rw [iltB_eq]; exact decide_eq_true (by show (16 : Int) < c; omega))
      exact ⟨rfl, 60, h', h⟩
    · obtain ⟨h', h, _⟩ := rc_no1 s c g (by rw [iltB_eq]; exact decide_eq_true (by show (2 : Int) < s; omega))
      exact ⟨rfl, 60, h', h⟩
  · cases hm
def madeR : RSum := RSum.nb true fun us => match us with
  | [.fsl a l cs] => some ([u8L cs, Nat.beq cs.length l], fun n => .slice (some (n, 0)) 512 (some 512), [.cells true 5 512 (kept (ofBytes (padB 512 ((bytesL cs).take 512))))])
  | _ => none
theorem madeR_ok : RSum.Sound Try.prog tys 44 madeR := by
  refine RSum.soundT (cx_goes _ _) all6a (RSum.nb_ok fun us q v bs hm hc => ?_)
  split at hm
  · rename_i a l cs
    injection hm with hm; injection hm with e1 hm; injection hm with e2 e3; rw [kept_eq] at e3; subst e1; subst e2; subst e3
    simp only [allTrue_cons] at hc
    obtain ⟨c1, c2, _⟩ := hc
    obtain ⟨b, rfl⟩ := u8L_iff.1 c1
    have c2 := eq_of_beq' c2
    rw [ofBytes_length] at c2
    subst c2
    rw [bytesL_ofBytes]
    refine ⟨fun k hk => ?_, ?_⟩
    · have : k = .cells true 5 512 (ofBytes (padB 512 (b.take 512))) := by simpa using hk
      subst this
      simp only [Blk.plainOwn, ofBytes_plain, Bool.and_self]
    · have fin : ∀ (h' : Heap) (X : List AV), [0, 1, 2].map h'.get = [Blk.cells true 5 512 X, Blk.dead, Blk.dead] → [0].map h'.get = [Blk.cells true 5 512 X] := by
        intro h' X hb
        have hb : [h'.get 0, h'.get 1, h'.get 2] = [_, _, _] := hb
        injection hb with hb _
        show [h'.get 0] = _
        rw [hb]
      by_cases h0 : b.length = 0
      · have : b = [] := List.eq_nil_of_length_eq_zero h0
        subst this
        obtain ⟨h', h, hb⟩ := made_0 a 0 (ofBytes []) rfl
        exact ⟨60, h', [0], _, h, fin h' _ hb, sel_one 0, rfl, fun n ρ hρ => by
          have := hρ 0 0 rfl
          simp only [AV.ren, Option.map_some, this, Nat.add_zero]
          exact AV.Le.refl _⟩
      · have ec : rowCut (ofBytes b) 0 (min b.length 512 * 1) = ofBytes (b.take 512) := by
          rw [rowCut_ofBytes, List.drop_zero, Nat.mul_one]
          congr 1
          by_cases hb : b.length ≤ 512
          · rw [Nat.min_eq_left hb, List.take_of_length_le (Nat.le_refl _), List.take_of_length_le hb]
          · rw [Nat.min_eq_right (by omega)]
        have hl : (b.take 512).length ≤ 512 := by rw [List.length_take]; omega
        have key := made_1 a b.length (ofBytes b)
        rw [ec, rowSet0_ofBytes _ _ (by rw [List.length_replicate]; exact hl)] at key
        obtain ⟨h', h, hb⟩ := key (by rw [nbeq]; exact decide_eq_false (by omega)) (beq_of1 (ofBytes_length b)) (ofBytes_cells _) (ble_of (by rw [ofBytes_length]; omega))
        have ep : b.take 512 ++ (List.replicate 512 (0 : UInt8)).drop (b.take 512).length = padB 512 (b.take 512) := by
          unfold padB; rw [List.drop_replicate]
        rw [ep] at hb
        exact ⟨60, h', [0], _, h, fin h' _ hb, sel_one 0, rfl, fun n ρ hρ => by
          have := hρ 0 0 rfl
          simp only [AV.ren, Option.map_some, this, Nat.add_zero]
          exact AV.Le.refl _⟩
  · cases hm
def gensR : RSum := RSum.pl true fun us => match us with
  | [.fsl a l cs] => some ([u8L cs, Nat.beq cs.length l, Nat.ble 12 l], .int .u64 (kept (genI (bytesL cs))))
  | _ => none
theorem gensR_ok : RSum.Sound Try.prog tys 45 gensR := by
  refine RSum.soundT (cx_goes _ _) all6a (RSum.pl_ok fun us q v hm hc => ?_)
  split at hm
  · rename_i a l cs
    injection hm with hm; injection hm with e1 e2; subst e1; subst e2
    simp only [allTrue_cons] at hc
    obtain ⟨c1, c2, c3, _⟩ := hc
    obtain ⟨b, rfl⟩ := u8L_iff.1 c1
    have c2 := eq_of_beq' c2
    rw [ofBytes_length] at c2
    subst c2
    have c3' : 12 ≤ b.length := Nat.le_of_ble_eq_true c3
    rw [kept_eq, bytesL_ofBytes]
    have key := gens_r a b.length (ofBytes b)
    have er : rowCut (ofBytes b) 4 8 = ofBytes ((b.drop 4).take 8) := rowCut_ofBytes b 4 8
    have hl : ((b.drop 4).take 8).length = 8 := by rw [List.length_take, List.length_drop]; omega
    unfold genI
    rw [er] at key
    generalize (b.drop 4).take 8 = t at key hl
    rcases t with _ | ⟨b0, _ | ⟨b1, _ | ⟨b2, _ | ⟨b3, _ | ⟨b4, _ | ⟨b5, _ | ⟨b6, _ | ⟨b7, _ | ⟨b8, t⟩⟩⟩⟩⟩⟩⟩⟩⟩ <;> first | (simp at hl; done) | skip
    obtain ⟨h', h, _⟩ := key (beq_of1 (ofBytes_length b)) c3 rfl rfl rfl rfl rfl rfl rfl rfl rfl rfl rfl rfl rfl rfl rfl rfl rfl
    refine ⟨rfl, 60, h', Eq.trans h ?_⟩
    have q0 := b0.toNat_lt; have q1 := b1.toNat_lt; have q2 := b2.toNat_lt; have q3 := b3.toNat_lt; have q4 := b4.toNat_lt; have q5 := b5.toNat_lt; have q6 := b6.toNat_lt; have q7 := b7.toNat_lt
    have hg : getN [b0, b1, b2, b3, b4, b5, b6, b7] = (((((((b0.toNat * 256 + b1.toNat) * 256 + b2.toNat) * 256 + b3.toNat) * 256 + b4.toNat) * 256 + b5.toNat) * 256 + b6.toNat) * 256 + b7.toNat) := by simp [getN]
    rw [hg]
    show some (AV.int IntKind.u64 (wrapA .u64 ((wrapA .u64 (Int.mul (wrapA .u64 ((wrapA .u64 (Int.mul (wrapA .u64 ((wrapA .u64 (Int.mul (wrapA .u64 ((wrapA .u64 (Int.mul (wrapA .u64 ((wrapA .u64 (Int.mul (wrapA .u64 ((wrapA .u64 (Int.mul (wrapA .u64 ((wrapA .u64 (Int.mul (wrapA .u64 ((Int.ofNat 0).add (wrapA .u64 (Int.ofNat b0.toNat)))) (Int.ofNat 256))).add (wrapA .u64 (Int.ofNat b1.toNat)))) (Int.ofNat 256))).add (wrapA .u64 (Int.ofNat b2.toNat)))) (Int.ofNat 256))).add (wrapA .u64 (Int.ofNat b3.toNat)))) (Int.ofNat 256))).add (wrapA .u64 (Int.ofNat b4.toNat)))) (Int.ofNat 256))).add (wrapA .u64 (Int.ofNat b5.toNat)))) (Int.ofNat 256))).add (wrapA .u64 (Int.ofNat b6.toNat)))) (Int.ofNat 256))).add (wrapA .u64 (Int.ofNat b7.toNat)))), h') = _
    rw [add_first b0, add_step (b0.toNat) b1 (by omega), add_step ((b0.toNat * 256 + b1.toNat)) b2 (by omega), add_step (((b0.toNat * 256 + b1.toNat) * 256 + b2.toNat)) b3 (by omega), add_step ((((b0.toNat * 256 + b1.toNat) * 256 + b2.toNat) * 256 + b3.toNat)) b4 (by omega), add_step (((((b0.toNat * 256 + b1.toNat) * 256 + b2.toNat) * 256 + b3.toNat) * 256 + b4.toNat)) b5 (by omega), add_step ((((((b0.toNat * 256 + b1.toNat) * 256 + b2.toNat) * 256 + b3.toNat) * 256 + b4.toNat) * 256 + b5.toNat)) b6 (by omega), add_step (((((((b0.toNat * 256 + b1.toNat) * 256 + b2.toNat) * 256 + b3.toNat) * 256 + b4.toNat) * 256 + b5.toNat) * 256 + b6.toNat)) b7 (by omega)]
  · cases hm
def parseCy : RSum := RSum.pl true fun us => match us with
  | [.fsl a l cs] => some ([u8L cs, Nat.beq cs.length l, kept (isCB (bytesL cs))], .tuple [.agg [.int .u8 (kept (byteI (bytesL cs) 2)), .int .u8 (kept (byteI (bytesL cs) 3)), .int .u64 (kept (genI (bytesL cs)))], .int .i64 (Int.ofNat 0)])
  | _ => none
def parseCn : RSum := RSum.pl true fun us => match us with
  | [.fsl a l cs] => some ([u8L cs, Nat.beq cs.length l, kept (!isCB (bytesL cs))], .tuple [.agg [.int .u8 (Int.ofNat 0), .int .u8 (Int.ofNat 0), .int .u64 (Int.ofNat 0)], .int .i64 (Int.ofNat 3)])
  | _ => none
structure Cuts (b : List UInt8) : Prop where
  s0 : rowCut (ofBytes b) 0 2 = ofBytes (b.take 2)
  s1 : rowCut (ofBytes b) 2 510 = ofBytes (b.drop 2)
  s2 : rowCut (ofBytes (b.drop 2)) 1 509 = ofBytes (b.drop 3)
  s3 : rowCut (ofBytes (b.drop 3)) 1 508 = ofBytes (b.drop 4)
  s4 : rowCut (ofBytes (b.drop 4)) 0 8 = ofBytes ((b.drop 4).take 8)
  s5 : rowCut (ofBytes (b.drop 4)) 8 500 = ofBytes (b.drop 12)
  s6 : rowCut (ofBytes (b.drop 2)) 0 1 = ofBytes [b.getD 2 0]
  s7 : rowCut (ofBytes (b.drop 3)) 0 1 = ofBytes [b.getD 3 0]
  l2 : (b.take 2).length = 2
  d2 : (b.drop 2).length = 510
  d3 : (b.drop 3).length = 509
  d4 : (b.drop 4).length = 508
  t8 : ((b.drop 4).take 8).length = 8
  d12 : (b.drop 12).length = 500
theorem cuts {b : List UInt8} (h : b.length = 512) : Cuts b := by
  have one : ∀ k, k < 512 → (b.drop k).take 1 = [b.getD k 0] := by
    intro k hk
    rw [List.drop_eq_getElem_cons (by omega), List.getD_eq_getElem?_getD, List.getElem?_eq_getElem (by omega)]
    rfl
  refine ⟨?_, ?_, ?_, ?_, ?_, ?_, ?_, ?_, ?_, ?_, ?_, ?_, ?_, ?_⟩
  · rw [rowCut_ofBytes, List.drop_zero]
  · rw [rowCut_ofBytes, List.take_of_length_le (by rw [List.length_drop]; omega)]
  · rw [rowCut_ofBytes, List.drop_drop, List.take_of_length_le (by rw [List.length_drop]; omega)]
  · rw [rowCut_ofBytes, List.drop_drop, List.take_of_length_le (by rw [List.length_drop]; omega)]
  · rw [rowCut_ofBytes, List.drop_zero]
  · rw [rowCut_ofBytes, List.drop_drop, List.take_of_length_le (by rw [List.length_drop]; omega)]
  · rw [rowCut_ofBytes, List.drop_zero, one 2 (by omega)]
  · rw [rowCut_ofBytes, List.drop_zero, one 3 (by omega)]
  all_goals simp [h]
theorem zero_of (t : List UInt8) : zeroL (ofBytes t) = t.all fun x => x == 0 := by
  unfold zeroL; rw [kept_eq, bytesL_ofBytes]
theorem parseCy_ok : RSum.Sound Try.prog tys 43 parseCy := by
  refine RSum.soundT (cx_goes _ _) all6a (RSum.pl_ok fun us q v hm hc => ?_)
  split at hm
  · rename_i a l cs
    injection hm with hm; injection hm with e1 e2; subst e1; subst e2
    simp only [allTrue_cons] at hc
    obtain ⟨c1, c2, c3, _⟩ := hc
    obtain ⟨b, rfl⟩ := u8L_iff.1 c1
    have c2 := eq_of_beq' c2
    rw [ofBytes_length] at c2
    subst c2
    rw [kept_eq, bytesL_ofBytes] at c3
    unfold isCB at c3
    simp only [Bool.and_eq_true, decide_eq_true_eq, rightC_iff] at c3
    obtain ⟨⟨⟨p1, p2⟩, p3, p4⟩, p5⟩ := c3
    have C := cuts p1
    have p2 := eq_of_beq p2
    simp only [kept_eq, bytesL_ofBytes]
    rw [p1]
    have lt3 : iltB ((b.getD 2 0).toNat : Int) (Int.ofNat 3) = true := by rw [iltB_eq]; exact decide_eq_true p3
    have le16 : (!ileB ((b.getD 3 0).toNat : Int) (Int.ofNat 16)) = false := by rw [ileB_eq]; simp only [Bool.not_eq_false', decide_eq_true_eq]; exact p4
    have key := pc_ok a (ofBytes b)
    replace key := key (by
      (try simp only [C.s0, C.s1, C.s2, C.s3, C.s4, C.s5, C.s6, C.s7, p2, p5, zero_of])
      first
        | done
        | rfl
        | exact lt3
        | exact le16
        | exact ofBytes_plainL _
        | exact u8L_ofBytes _
        | (simp [nbeq, nble, iltB_eq, ileB_eq, ieqB_eq, bytesEq_eq, u8L_ofBytes, bytesL_ofBytes, bytesOf_ofBytes, ofBytes_plainL, ofBytes_length, putB_length, C.l2, C.d2, C.d3, C.d4, C.t8, C.d12, p1, AV.isInt, AV.intOf]; done)
        | (simp [nbeq, nble, iltB_eq, ileB_eq, ieqB_eq, bytesEq_eq, u8L_ofBytes, bytesL_ofBytes, bytesOf_ofBytes, ofBytes_plainL, ofBytes_length, putB_length, C.l2, C.d2, C.d3, C.d4, C.t8, C.d12, p1, AV.isInt, AV.intOf]; omega))
    replace key := key (by
      (try simp only [C.s0, C.s1, C.s2, C.s3, C.s4, C.s5, C.s6, C.s7, p2, p5, zero_of])
      first
        | done
        | rfl
        | exact lt3
        | exact le16
        | exact ofBytes_plainL _
        | exact u8L_ofBytes _
        | (simp [nbeq, nble, iltB_eq, ileB_eq, ieqB_eq, bytesEq_eq, u8L_ofBytes, bytesL_ofBytes, bytesOf_ofBytes, ofBytes_plainL, ofBytes_length, putB_length, C.l2, C.d2, C.d3, C.d4, C.t8, C.d12, p1, AV.isInt, AV.intOf]; done)
        | (simp [nbeq, nble, iltB_eq, ileB_eq, ieqB_eq, bytesEq_eq, u8L_ofBytes, bytesL_ofBytes, bytesOf_ofBytes, ofBytes_plainL, ofBytes_length, putB_length, C.l2, C.d2, C.d3, C.d4, C.t8, C.d12, p1, AV.isInt, AV.intOf]; omega))
    replace key := key (by
      (try simp only [C.s0, C.s1, C.s2, C.s3, C.s4, C.s5, C.s6, C.s7, p2, p5, zero_of])
      first
        | done
        | rfl
        | exact lt3
        | exact le16
        | exact ofBytes_plainL _
        | exact u8L_ofBytes _
        | (simp [nbeq, nble, iltB_eq, ileB_eq, ieqB_eq, bytesEq_eq, u8L_ofBytes, bytesL_ofBytes, bytesOf_ofBytes, ofBytes_plainL, ofBytes_length, putB_length, C.l2, C.d2, C.d3, C.d4, C.t8, C.d12, p1, AV.isInt, AV.intOf]; done)
        | (simp [nbeq, nble, iltB_eq, ileB_eq, ieqB_eq, bytesEq_eq, u8L_ofBytes, bytesL_ofBytes, bytesOf_ofBytes, ofBytes_plainL, ofBytes_length, putB_length, C.l2, C.d2, C.d3, C.d4, C.t8, C.d12, p1, AV.isInt, AV.intOf]; omega))
    replace key := key (by
      (try simp only [C.s0, C.s1, C.s2, C.s3, C.s4, C.s5, C.s6, C.s7, p2, p5, zero_of])
      first
        | done
        | rfl
        | exact lt3
        | exact le16
        | exact ofBytes_plainL _
        | exact u8L_ofBytes _
        | (simp [nbeq, nble, iltB_eq, ileB_eq, ieqB_eq, bytesEq_eq, u8L_ofBytes, bytesL_ofBytes, bytesOf_ofBytes, ofBytes_plainL, ofBytes_length, putB_length, C.l2, C.d2, C.d3, C.d4, C.t8, C.d12, p1, AV.isInt, AV.intOf]; done)
        | (simp [nbeq, nble, iltB_eq, ileB_eq, ieqB_eq, bytesEq_eq, u8L_ofBytes, bytesL_ofBytes, bytesOf_ofBytes, ofBytes_plainL, ofBytes_length, putB_length, C.l2, C.d2, C.d3, C.d4, C.t8, C.d12, p1, AV.isInt, AV.intOf]; omega))
    replace key := key (by
      (try simp only [C.s0, C.s1, C.s2, C.s3, C.s4, C.s5, C.s6, C.s7, p2, p5, zero_of])
      first
        | done
        | rfl
        | exact lt3
        | exact le16
        | exact ofBytes_plainL _
        | exact u8L_ofBytes _
        | (simp [nbeq, nble, iltB_eq, ileB_eq, ieqB_eq, bytesEq_eq, u8L_ofBytes, bytesL_ofBytes, bytesOf_ofBytes, ofBytes_plainL, ofBytes_length, putB_length, C.l2, C.d2, C.d3, C.d4, C.t8, C.d12, p1, AV.isInt, AV.intOf]; done)
        | (simp [nbeq, nble, iltB_eq, ileB_eq, ieqB_eq, bytesEq_eq, u8L_ofBytes, bytesL_ofBytes, bytesOf_ofBytes, ofBytes_plainL, ofBytes_length, putB_length, C.l2, C.d2, C.d3, C.d4, C.t8, C.d12, p1, AV.isInt, AV.intOf]; omega))
    replace key := key (by
      (try simp only [C.s0, C.s1, C.s2, C.s3, C.s4, C.s5, C.s6, C.s7, p2, p5, zero_of])
      first
        | done
        | rfl
        | exact lt3
        | exact le16
        | exact ofBytes_plainL _
        | exact u8L_ofBytes _
        | (simp [nbeq, nble, iltB_eq, ileB_eq, ieqB_eq, bytesEq_eq, u8L_ofBytes, bytesL_ofBytes, bytesOf_ofBytes, ofBytes_plainL, ofBytes_length, putB_length, C.l2, C.d2, C.d3, C.d4, C.t8, C.d12, p1, AV.isInt, AV.intOf]; done)
        | (simp [nbeq, nble, iltB_eq, ileB_eq, ieqB_eq, bytesEq_eq, u8L_ofBytes, bytesL_ofBytes, bytesOf_ofBytes, ofBytes_plainL, ofBytes_length, putB_length, C.l2, C.d2, C.d3, C.d4, C.t8, C.d12, p1, AV.isInt, AV.intOf]; omega))
    replace key := key (by
      (try simp only [C.s0, C.s1, C.s2, C.s3, C.s4, C.s5, C.s6, C.s7, p2, p5, zero_of])
      first
        | done
        | rfl
        | exact lt3
        | exact le16
        | exact ofBytes_plainL _
        | exact u8L_ofBytes _
        | (simp [nbeq, nble, iltB_eq, ileB_eq, ieqB_eq, bytesEq_eq, u8L_ofBytes, bytesL_ofBytes, bytesOf_ofBytes, ofBytes_plainL, ofBytes_length, putB_length, C.l2, C.d2, C.d3, C.d4, C.t8, C.d12, p1, AV.isInt, AV.intOf]; done)
        | (simp [nbeq, nble, iltB_eq, ileB_eq, ieqB_eq, bytesEq_eq, u8L_ofBytes, bytesL_ofBytes, bytesOf_ofBytes, ofBytes_plainL, ofBytes_length, putB_length, C.l2, C.d2, C.d3, C.d4, C.t8, C.d12, p1, AV.isInt, AV.intOf]; omega))
    replace key := key (by
      (try simp only [C.s0, C.s1, C.s2, C.s3, C.s4, C.s5, C.s6, C.s7, p2, p5, zero_of])
      first
        | done
        | rfl
        | exact lt3
        | exact le16
        | exact ofBytes_plainL _
        | exact u8L_ofBytes _
        | (simp [nbeq, nble, iltB_eq, ileB_eq, ieqB_eq, bytesEq_eq, u8L_ofBytes, bytesL_ofBytes, bytesOf_ofBytes, ofBytes_plainL, ofBytes_length, putB_length, C.l2, C.d2, C.d3, C.d4, C.t8, C.d12, p1, AV.isInt, AV.intOf]; done)
        | (simp [nbeq, nble, iltB_eq, ileB_eq, ieqB_eq, bytesEq_eq, u8L_ofBytes, bytesL_ofBytes, bytesOf_ofBytes, ofBytes_plainL, ofBytes_length, putB_length, C.l2, C.d2, C.d3, C.d4, C.t8, C.d12, p1, AV.isInt, AV.intOf]; omega))
    replace key := key (by
      (try simp only [C.s0, C.s1, C.s2, C.s3, C.s4, C.s5, C.s6, C.s7, p2, p5, zero_of])
      first
        | done
        | rfl
        | exact lt3
        | exact le16
        | exact ofBytes_plainL _
        | exact u8L_ofBytes _
        | (simp [nbeq, nble, iltB_eq, ileB_eq, ieqB_eq, bytesEq_eq, u8L_ofBytes, bytesL_ofBytes, bytesOf_ofBytes, ofBytes_plainL, ofBytes_length, putB_length, C.l2, C.d2, C.d3, C.d4, C.t8, C.d12, p1, AV.isInt, AV.intOf]; done)
        | (simp [nbeq, nble, iltB_eq, ileB_eq, ieqB_eq, bytesEq_eq, u8L_ofBytes, bytesL_ofBytes, bytesOf_ofBytes, ofBytes_plainL, ofBytes_length, putB_length, C.l2, C.d2, C.d3, C.d4, C.t8, C.d12, p1, AV.isInt, AV.intOf]; omega))
    replace key := key (by
      (try simp only [C.s0, C.s1, C.s2, C.s3, C.s4, C.s5, C.s6, C.s7, p2, p5, zero_of])
      first
        | done
        | rfl
        | exact lt3
        | exact le16
        | exact ofBytes_plainL _
        | exact u8L_ofBytes _
        | (simp [nbeq, nble, iltB_eq, ileB_eq, ieqB_eq, bytesEq_eq, u8L_ofBytes, bytesL_ofBytes, bytesOf_ofBytes, ofBytes_plainL, ofBytes_length, putB_length, C.l2, C.d2, C.d3, C.d4, C.t8, C.d12, p1, AV.isInt, AV.intOf]; done)
        | (simp [nbeq, nble, iltB_eq, ileB_eq, ieqB_eq, bytesEq_eq, u8L_ofBytes, bytesL_ofBytes, bytesOf_ofBytes, ofBytes_plainL, ofBytes_length, putB_length, C.l2, C.d2, C.d3, C.d4, C.t8, C.d12, p1, AV.isInt, AV.intOf]; omega))
    replace key := key (by
      (try simp only [C.s0, C.s1, C.s2, C.s3, C.s4, C.s5, C.s6, C.s7, p2, p5, zero_of])
      first
        | done
        | rfl
        | exact lt3
        | exact le16
        | exact ofBytes_plainL _
        | exact u8L_ofBytes _
        | (simp [nbeq, nble, iltB_eq, ileB_eq, ieqB_eq, bytesEq_eq, u8L_ofBytes, bytesL_ofBytes, bytesOf_ofBytes, ofBytes_plainL, ofBytes_length, putB_length, C.l2, C.d2, C.d3, C.d4, C.t8, C.d12, p1, AV.isInt, AV.intOf]; done)
        | (simp [nbeq, nble, iltB_eq, ileB_eq, ieqB_eq, bytesEq_eq, u8L_ofBytes, bytesL_ofBytes, bytesOf_ofBytes, ofBytes_plainL, ofBytes_length, putB_length, C.l2, C.d2, C.d3, C.d4, C.t8, C.d12, p1, AV.isInt, AV.intOf]; omega))
    replace key := key (by
      (try simp only [C.s0, C.s1, C.s2, C.s3, C.s4, C.s5, C.s6, C.s7, p2, p5, zero_of])
      first
        | done
        | rfl
        | exact lt3
        | exact le16
        | exact ofBytes_plainL _
        | exact u8L_ofBytes _
        | (simp [nbeq, nble, iltB_eq, ileB_eq, ieqB_eq, bytesEq_eq, u8L_ofBytes, bytesL_ofBytes, bytesOf_ofBytes, ofBytes_plainL, ofBytes_length, putB_length, C.l2, C.d2, C.d3, C.d4, C.t8, C.d12, p1, AV.isInt, AV.intOf]; done)
        | (simp [nbeq, nble, iltB_eq, ileB_eq, ieqB_eq, bytesEq_eq, u8L_ofBytes, bytesL_ofBytes, bytesOf_ofBytes, ofBytes_plainL, ofBytes_length, putB_length, C.l2, C.d2, C.d3, C.d4, C.t8, C.d12, p1, AV.isInt, AV.intOf]; omega))
    replace key := key (by
      (try simp only [C.s0, C.s1, C.s2, C.s3, C.s4, C.s5, C.s6, C.s7, p2, p5, zero_of])
      first
        | done
        | rfl
        | exact lt3
        | exact le16
        | exact ofBytes_plainL _
        | exact u8L_ofBytes _
        | (simp [nbeq, nble, iltB_eq, ileB_eq, ieqB_eq, bytesEq_eq, u8L_ofBytes, bytesL_ofBytes, bytesOf_ofBytes, ofBytes_plainL, ofBytes_length, putB_length, C.l2, C.d2, C.d3, C.d4, C.t8, C.d12, p1, AV.isInt, AV.intOf]; done)
        | (simp [nbeq, nble, iltB_eq, ileB_eq, ieqB_eq, bytesEq_eq, u8L_ofBytes, bytesL_ofBytes, bytesOf_ofBytes, ofBytes_plainL, ofBytes_length, putB_length, C.l2, C.d2, C.d3, C.d4, C.t8, C.d12, p1, AV.isInt, AV.intOf]; omega))
    replace key := key (by
      (try simp only [C.s0, C.s1, C.s2, C.s3, C.s4, C.s5, C.s6, C.s7, p2, p5, zero_of])
      first
        | done
        | rfl
        | exact lt3
        | exact le16
        | exact ofBytes_plainL _
        | exact u8L_ofBytes _
        | (simp [nbeq, nble, iltB_eq, ileB_eq, ieqB_eq, bytesEq_eq, u8L_ofBytes, bytesL_ofBytes, bytesOf_ofBytes, ofBytes_plainL, ofBytes_length, putB_length, C.l2, C.d2, C.d3, C.d4, C.t8, C.d12, p1, AV.isInt, AV.intOf]; done)
        | (simp [nbeq, nble, iltB_eq, ileB_eq, ieqB_eq, bytesEq_eq, u8L_ofBytes, bytesL_ofBytes, bytesOf_ofBytes, ofBytes_plainL, ofBytes_length, putB_length, C.l2, C.d2, C.d3, C.d4, C.t8, C.d12, p1, AV.isInt, AV.intOf]; omega))
    replace key := key (by
      (try simp only [C.s0, C.s1, C.s2, C.s3, C.s4, C.s5, C.s6, C.s7, p2, p5, zero_of])
      first
        | done
        | rfl
        | exact lt3
        | exact le16
        | exact ofBytes_plainL _
        | exact u8L_ofBytes _
        | (simp [nbeq, nble, iltB_eq, ileB_eq, ieqB_eq, bytesEq_eq, u8L_ofBytes, bytesL_ofBytes, bytesOf_ofBytes, ofBytes_plainL, ofBytes_length, putB_length, C.l2, C.d2, C.d3, C.d4, C.t8, C.d12, p1, AV.isInt, AV.intOf]; done)
        | (simp [nbeq, nble, iltB_eq, ileB_eq, ieqB_eq, bytesEq_eq, u8L_ofBytes, bytesL_ofBytes, bytesOf_ofBytes, ofBytes_plainL, ofBytes_length, putB_length, C.l2, C.d2, C.d3, C.d4, C.t8, C.d12, p1, AV.isInt, AV.intOf]; omega))
    replace key := key (by
      (try simp only [C.s0, C.s1, C.s2, C.s3, C.s4, C.s5, C.s6, C.s7, p2, p5, zero_of])
      first
        | done
        | rfl
        | exact lt3
        | exact le16
        | exact ofBytes_plainL _
        | exact u8L_ofBytes _
        | (simp [nbeq, nble, iltB_eq, ileB_eq, ieqB_eq, bytesEq_eq, u8L_ofBytes, bytesL_ofBytes, bytesOf_ofBytes, ofBytes_plainL, ofBytes_length, putB_length, C.l2, C.d2, C.d3, C.d4, C.t8, C.d12, p1, AV.isInt, AV.intOf]; done)
        | (simp [nbeq, nble, iltB_eq, ileB_eq, ieqB_eq, bytesEq_eq, u8L_ofBytes, bytesL_ofBytes, bytesOf_ofBytes, ofBytes_plainL, ofBytes_length, putB_length, C.l2, C.d2, C.d3, C.d4, C.t8, C.d12, p1, AV.isInt, AV.intOf]; omega))
    replace key := key (by
      (try simp only [C.s0, C.s1, C.s2, C.s3, C.s4, C.s5, C.s6, C.s7, p2, p5, zero_of])
      first
        | done
        | rfl
        | exact lt3
        | exact le16
        | exact ofBytes_plainL _
        | exact u8L_ofBytes _
        | (simp [nbeq, nble, iltB_eq, ileB_eq, ieqB_eq, bytesEq_eq, u8L_ofBytes, bytesL_ofBytes, bytesOf_ofBytes, ofBytes_plainL, ofBytes_length, putB_length, C.l2, C.d2, C.d3, C.d4, C.t8, C.d12, p1, AV.isInt, AV.intOf]; done)
        | (simp [nbeq, nble, iltB_eq, ileB_eq, ieqB_eq, bytesEq_eq, u8L_ofBytes, bytesL_ofBytes, bytesOf_ofBytes, ofBytes_plainL, ofBytes_length, putB_length, C.l2, C.d2, C.d3, C.d4, C.t8, C.d12, p1, AV.isInt, AV.intOf]; omega))
    replace key := key (by
      (try simp only [C.s0, C.s1, C.s2, C.s3, C.s4, C.s5, C.s6, C.s7, p2, p5, zero_of])
      first
        | done
        | rfl
        | exact lt3
        | exact le16
        | exact ofBytes_plainL _
        | exact u8L_ofBytes _
        | (simp [nbeq, nble, iltB_eq, ileB_eq, ieqB_eq, bytesEq_eq, u8L_ofBytes, bytesL_ofBytes, bytesOf_ofBytes, ofBytes_plainL, ofBytes_length, putB_length, C.l2, C.d2, C.d3, C.d4, C.t8, C.d12, p1, AV.isInt, AV.intOf]; done)
        | (simp [nbeq, nble, iltB_eq, ileB_eq, ieqB_eq, bytesEq_eq, u8L_ofBytes, bytesL_ofBytes, bytesOf_ofBytes, ofBytes_plainL, ofBytes_length, putB_length, C.l2, C.d2, C.d3, C.d4, C.t8, C.d12, p1, AV.isInt, AV.intOf]; omega))
    replace key := key (by
      (try simp only [C.s0, C.s1, C.s2, C.s3, C.s4, C.s5, C.s6, C.s7, p2, p5, zero_of])
      first
        | done
        | rfl
        | exact lt3
        | exact le16
        | exact ofBytes_plainL _
        | exact u8L_ofBytes _
        | (simp [nbeq, nble, iltB_eq, ileB_eq, ieqB_eq, bytesEq_eq, u8L_ofBytes, bytesL_ofBytes, bytesOf_ofBytes, ofBytes_plainL, ofBytes_length, putB_length, C.l2, C.d2, C.d3, C.d4, C.t8, C.d12, p1, AV.isInt, AV.intOf]; done)
        | (simp [nbeq, nble, iltB_eq, ileB_eq, ieqB_eq, bytesEq_eq, u8L_ofBytes, bytesL_ofBytes, bytesOf_ofBytes, ofBytes_plainL, ofBytes_length, putB_length, C.l2, C.d2, C.d3, C.d4, C.t8, C.d12, p1, AV.isInt, AV.intOf]; omega))
    replace key := key (by
      (try simp only [C.s0, C.s1, C.s2, C.s3, C.s4, C.s5, C.s6, C.s7, p2, p5, zero_of])
      first
        | done
        | rfl
        | exact lt3
        | exact le16
        | exact ofBytes_plainL _
        | exact u8L_ofBytes _
        | (simp [nbeq, nble, iltB_eq, ileB_eq, ieqB_eq, bytesEq_eq, u8L_ofBytes, bytesL_ofBytes, bytesOf_ofBytes, ofBytes_plainL, ofBytes_length, putB_length, C.l2, C.d2, C.d3, C.d4, C.t8, C.d12, p1, AV.isInt, AV.intOf]; done)
        | (simp [nbeq, nble, iltB_eq, ileB_eq, ieqB_eq, bytesEq_eq, u8L_ofBytes, bytesL_ofBytes, bytesOf_ofBytes, ofBytes_plainL, ofBytes_length, putB_length, C.l2, C.d2, C.d3, C.d4, C.t8, C.d12, p1, AV.isInt, AV.intOf]; omega))
    replace key := key (by
      (try simp only [C.s0, C.s1, C.s2, C.s3, C.s4, C.s5, C.s6, C.s7, p2, p5, zero_of])
      first
        | done
        | rfl
        | exact lt3
        | exact le16
        | exact ofBytes_plainL _
        | exact u8L_ofBytes _
        | (simp [nbeq, nble, iltB_eq, ileB_eq, ieqB_eq, bytesEq_eq, u8L_ofBytes, bytesL_ofBytes, bytesOf_ofBytes, ofBytes_plainL, ofBytes_length, putB_length, C.l2, C.d2, C.d3, C.d4, C.t8, C.d12, p1, AV.isInt, AV.intOf]; done)
        | (simp [nbeq, nble, iltB_eq, ileB_eq, ieqB_eq, bytesEq_eq, u8L_ofBytes, bytesL_ofBytes, bytesOf_ofBytes, ofBytes_plainL, ofBytes_length, putB_length, C.l2, C.d2, C.d3, C.d4, C.t8, C.d12, p1, AV.isInt, AV.intOf]; omega))
    replace key := key (by
      (try simp only [C.s0, C.s1, C.s2, C.s3, C.s4, C.s5, C.s6, C.s7, p2, p5, zero_of])
      first
        | done
        | rfl
        | exact lt3
        | exact le16
        | exact ofBytes_plainL _
        | exact u8L_ofBytes _
        | (simp [nbeq, nble, iltB_eq, ileB_eq, ieqB_eq, bytesEq_eq, u8L_ofBytes, bytesL_ofBytes, bytesOf_ofBytes, ofBytes_plainL, ofBytes_length, putB_length, C.l2, C.d2, C.d3, C.d4, C.t8, C.d12, p1, AV.isInt, AV.intOf]; done)
        | (simp [nbeq, nble, iltB_eq, ileB_eq, ieqB_eq, bytesEq_eq, u8L_ofBytes, bytesL_ofBytes, bytesOf_ofBytes, ofBytes_plainL, ofBytes_length, putB_length, C.l2, C.d2, C.d3, C.d4, C.t8, C.d12, p1, AV.isInt, AV.intOf]; omega))
    obtain ⟨h', h, _⟩ := key
    refine ⟨rfl, 60, h', Eq.trans h ?_⟩
    simp only [C.s1, C.s2, C.s3, C.s4, C.s6, C.s7, getI_ofBytes, C.t8, Nat.le_refl, if_true, List.take_of_length_le (Nat.le_of_eq C.t8)]
    rfl
  · cases hm
theorem parseCn_ok : RSum.Sound Try.prog tys 43 parseCn := by
  refine RSum.soundT (cx_goes _ _) all6a (RSum.pl_ok fun us q v hm hc => ?_)
  split at hm
  · rename_i a l cs
    injection hm with hm; injection hm with e1 e2; subst e1; subst e2
    simp only [allTrue_cons] at hc
    obtain ⟨c1, c2, c3, _⟩ := hc
    obtain ⟨b, rfl⟩ := u8L_iff.1 c1
    have c2 := eq_of_beq' c2
    rw [ofBytes_length] at c2
    subst c2
    rw [kept_eq, bytesL_ofBytes, Bool.not_eq_true'] at c3
    by_cases p1 : b.length = 512
    case neg =>
      obtain ⟨h', h, _⟩ := pc_len a b.length (ofBytes b) (by rw [ieqB_eq, beq_eq_false_iff_ne]; intro e; exact p1 (Int.ofNat.inj e))
      exact ⟨rfl, 60, h', h⟩
    have C := cuts p1
    rw [p1]
    by_cases p2 : b.take 2 = [UInt8.ofNat 76, UInt8.ofNat 67]
    case neg =>
      have key := pc_sign a (ofBytes b)
      replace key := key (by
        (try simp only [C.s0])
        first
          | done
          | rfl
          | exact lt3
          | exact le16
          | exact ofBytes_plainL _
          | exact u8L_ofBytes _
          | (simp [nbeq, nble, iltB_eq, ileB_eq, ieqB_eq, bytesEq_eq, u8L_ofBytes, bytesL_ofBytes, bytesOf_ofBytes, ofBytes_plainL, ofBytes_length, putB_length, C.l2, C.d2, C.d3, C.d4, C.t8, C.d12, p1, p2, AV.isInt, AV.intOf]; done)
          | (simp [nbeq, nble, iltB_eq, ileB_eq, ieqB_eq, bytesEq_eq, u8L_ofBytes, bytesL_ofBytes, bytesOf_ofBytes, ofBytes_plainL, ofBytes_length, putB_length, C.l2, C.d2, C.d3, C.d4, C.t8, C.d12, p1, p2, AV.isInt, AV.intOf]; omega))
      replace key := key (by
        (try simp only [C.s0])
        first
          | done
          | rfl
          | exact lt3
          | exact le16
          | exact ofBytes_plainL _
          | exact u8L_ofBytes _
          | (simp [nbeq, nble, iltB_eq, ileB_eq, ieqB_eq, bytesEq_eq, u8L_ofBytes, bytesL_ofBytes, bytesOf_ofBytes, ofBytes_plainL, ofBytes_length, putB_length, C.l2, C.d2, C.d3, C.d4, C.t8, C.d12, p1, p2, AV.isInt, AV.intOf]; done)
          | (simp [nbeq, nble, iltB_eq, ileB_eq, ieqB_eq, bytesEq_eq, u8L_ofBytes, bytesL_ofBytes, bytesOf_ofBytes, ofBytes_plainL, ofBytes_length, putB_length, C.l2, C.d2, C.d3, C.d4, C.t8, C.d12, p1, p2, AV.isInt, AV.intOf]; omega))
      replace key := key (by
        (try simp only [C.s0])
        first
          | done
          | rfl
          | exact lt3
          | exact le16
          | exact ofBytes_plainL _
          | exact u8L_ofBytes _
          | (simp [nbeq, nble, iltB_eq, ileB_eq, ieqB_eq, bytesEq_eq, u8L_ofBytes, bytesL_ofBytes, bytesOf_ofBytes, ofBytes_plainL, ofBytes_length, putB_length, C.l2, C.d2, C.d3, C.d4, C.t8, C.d12, p1, p2, AV.isInt, AV.intOf]; done)
          | (simp [nbeq, nble, iltB_eq, ileB_eq, ieqB_eq, bytesEq_eq, u8L_ofBytes, bytesL_ofBytes, bytesOf_ofBytes, ofBytes_plainL, ofBytes_length, putB_length, C.l2, C.d2, C.d3, C.d4, C.t8, C.d12, p1, p2, AV.isInt, AV.intOf]; omega))
      replace key := key (by
        (try simp only [C.s0])
        first
          | done
          | rfl
          | exact lt3
          | exact le16
          | exact ofBytes_plainL _
          | exact u8L_ofBytes _
          | (simp [nbeq, nble, iltB_eq, ileB_eq, ieqB_eq, bytesEq_eq, u8L_ofBytes, bytesL_ofBytes, bytesOf_ofBytes, ofBytes_plainL, ofBytes_length, putB_length, C.l2, C.d2, C.d3, C.d4, C.t8, C.d12, p1, p2, AV.isInt, AV.intOf]; done)
          | (simp [nbeq, nble, iltB_eq, ileB_eq, ieqB_eq, bytesEq_eq, u8L_ofBytes, bytesL_ofBytes, bytesOf_ofBytes, ofBytes_plainL, ofBytes_length, putB_length, C.l2, C.d2, C.d3, C.d4, C.t8, C.d12, p1, p2, AV.isInt, AV.intOf]; omega))
      obtain ⟨h', h, _⟩ := key
      exact ⟨rfl, 60, h', h⟩
    by_cases p3 : ((b.getD 2 0).toNat : Int) < 3
    case neg =>
      have lt3 : iltB ((b.getD 2 0).toNat : Int) (Int.ofNat 3) = false := by rw [iltB_eq]; exact decide_eq_false p3
      have key := pc_state a (ofBytes b)
      replace key := key (by
        (try simp only [C.s0, C.s1, C.s2, C.s3, C.s4, C.s5, C.s6, C.s7, p2, zero_of])
        first
          | done
          | rfl
          | exact lt3
          | exact le16
          | exact ofBytes_plainL _
          | exact u8L_ofBytes _
          | (simp [p3, nbeq, nble, iltB_eq, ileB_eq, ieqB_eq, bytesEq_eq, u8L_ofBytes, bytesL_ofBytes, bytesOf_ofBytes, ofBytes_plainL, ofBytes_length, putB_length, C.l2, C.d2, C.d3, C.d4, C.t8, C.d12, p1, AV.isInt, AV.intOf]; done)
          | (simp [p3, nbeq, nble, iltB_eq, ileB_eq, ieqB_eq, bytesEq_eq, u8L_ofBytes, bytesL_ofBytes, bytesOf_ofBytes, ofBytes_plainL, ofBytes_length, putB_length, C.l2, C.d2, C.d3, C.d4, C.t8, C.d12, p1, AV.isInt, AV.intOf]; omega))
      replace key := key (by
        (try simp only [C.s0, C.s1, C.s2, C.s3, C.s4, C.s5, C.s6, C.s7, p2, zero_of])
        first
          | done
          | rfl
          | exact lt3
          | exact le16
          | exact ofBytes_plainL _
          | exact u8L_ofBytes _
          | (simp [p3, nbeq, nble, iltB_eq, ileB_eq, ieqB_eq, bytesEq_eq, u8L_ofBytes, bytesL_ofBytes, bytesOf_ofBytes, ofBytes_plainL, ofBytes_length, putB_length, C.l2, C.d2, C.d3, C.d4, C.t8, C.d12, p1, AV.isInt, AV.intOf]; done)
          | (simp [p3, nbeq, nble, iltB_eq, ileB_eq, ieqB_eq, bytesEq_eq, u8L_ofBytes, bytesL_ofBytes, bytesOf_ofBytes, ofBytes_plainL, ofBytes_length, putB_length, C.l2, C.d2, C.d3, C.d4, C.t8, C.d12, p1, AV.isInt, AV.intOf]; omega))
      replace key := key (by
        (try simp only [C.s0, C.s1, C.s2, C.s3, C.s4, C.s5, C.s6, C.s7, p2, zero_of])
        first
          | done
          | rfl
          | exact lt3
          | exact le16
          | exact ofBytes_plainL _
          | exact u8L_ofBytes _
          | (simp [p3, nbeq, nble, iltB_eq, ileB_eq, ieqB_eq, bytesEq_eq, u8L_ofBytes, bytesL_ofBytes, bytesOf_ofBytes, ofBytes_plainL, ofBytes_length, putB_length, C.l2, C.d2, C.d3, C.d4, C.t8, C.d12, p1, AV.isInt, AV.intOf]; done)
          | (simp [p3, nbeq, nble, iltB_eq, ileB_eq, ieqB_eq, bytesEq_eq, u8L_ofBytes, bytesL_ofBytes, bytesOf_ofBytes, ofBytes_plainL, ofBytes_length, putB_length, C.l2, C.d2, C.d3, C.d4, C.t8, C.d12, p1, AV.isInt, AV.intOf]; omega))
      replace key := key (by
        (try simp only [C.s0, C.s1, C.s2, C.s3, C.s4, C.s5, C.s6, C.s7, p2, zero_of])
        first
          | done
          | rfl
          | exact lt3
          | exact le16
          | exact ofBytes_plainL _
          | exact u8L_ofBytes _
          | (simp [p3, nbeq, nble, iltB_eq, ileB_eq, ieqB_eq, bytesEq_eq, u8L_ofBytes, bytesL_ofBytes, bytesOf_ofBytes, ofBytes_plainL, ofBytes_length, putB_length, C.l2, C.d2, C.d3, C.d4, C.t8, C.d12, p1, AV.isInt, AV.intOf]; done)
          | (simp [p3, nbeq, nble, iltB_eq, ileB_eq, ieqB_eq, bytesEq_eq, u8L_ofBytes, bytesL_ofBytes, bytesOf_ofBytes, ofBytes_plainL, ofBytes_length, putB_length, C.l2, C.d2, C.d3, C.d4, C.t8, C.d12, p1, AV.isInt, AV.intOf]; omega))
      replace key := key (by
        (try simp only [C.s0, C.s1, C.s2, C.s3, C.s4, C.s5, C.s6, C.s7, p2, zero_of])
        first
          | done
          | rfl
          | exact lt3
          | exact le16
          | exact ofBytes_plainL _
          | exact u8L_ofBytes _
          | (simp [p3, nbeq, nble, iltB_eq, ileB_eq, ieqB_eq, bytesEq_eq, u8L_ofBytes, bytesL_ofBytes, bytesOf_ofBytes, ofBytes_plainL, ofBytes_length, putB_length, C.l2, C.d2, C.d3, C.d4, C.t8, C.d12, p1, AV.isInt, AV.intOf]; done)
          | (simp [p3, nbeq, nble, iltB_eq, ileB_eq, ieqB_eq, bytesEq_eq, u8L_ofBytes, bytesL_ofBytes, bytesOf_ofBytes, ofBytes_plainL, ofBytes_length, putB_length, C.l2, C.d2, C.d3, C.d4, C.t8, C.d12, p1, AV.isInt, AV.intOf]; omega))
      replace key := key (by
        (try simp only [C.s0, C.s1, C.s2, C.s3, C.s4, C.s5, C.s6, C.s7, p2, zero_of])
        first
          | done
          | rfl
          | exact lt3
          | exact le16
          | exact ofBytes_plainL _
          | exact u8L_ofBytes _
          | (simp [p3, nbeq, nble, iltB_eq, ileB_eq, ieqB_eq, bytesEq_eq, u8L_ofBytes, bytesL_ofBytes, bytesOf_ofBytes, ofBytes_plainL, ofBytes_length, putB_length, C.l2, C.d2, C.d3, C.d4, C.t8, C.d12, p1, AV.isInt, AV.intOf]; done)
          | (simp [p3, nbeq, nble, iltB_eq, ileB_eq, ieqB_eq, bytesEq_eq, u8L_ofBytes, bytesL_ofBytes, bytesOf_ofBytes, ofBytes_plainL, ofBytes_length, putB_length, C.l2, C.d2, C.d3, C.d4, C.t8, C.d12, p1, AV.isInt, AV.intOf]; omega))
      replace key := key (by
        (try simp only [C.s0, C.s1, C.s2, C.s3, C.s4, C.s5, C.s6, C.s7, p2, zero_of])
        first
          | done
          | rfl
          | exact lt3
          | exact le16
          | exact ofBytes_plainL _
          | exact u8L_ofBytes _
          | (simp [p3, nbeq, nble, iltB_eq, ileB_eq, ieqB_eq, bytesEq_eq, u8L_ofBytes, bytesL_ofBytes, bytesOf_ofBytes, ofBytes_plainL, ofBytes_length, putB_length, C.l2, C.d2, C.d3, C.d4, C.t8, C.d12, p1, AV.isInt, AV.intOf]; done)
          | (simp [p3, nbeq, nble, iltB_eq, ileB_eq, ieqB_eq, bytesEq_eq, u8L_ofBytes, bytesL_ofBytes, bytesOf_ofBytes, ofBytes_plainL, ofBytes_length, putB_length, C.l2, C.d2, C.d3, C.d4, C.t8, C.d12, p1, AV.isInt, AV.intOf]; omega))
      replace key := key (by
        (try simp only [C.s0, C.s1, C.s2, C.s3, C.s4, C.s5, C.s6, C.s7, p2, zero_of])
        first
          | done
          | rfl
          | exact lt3
          | exact le16
          | exact ofBytes_plainL _
          | exact u8L_ofBytes _
          | (simp [p3, nbeq, nble, iltB_eq, ileB_eq, ieqB_eq, bytesEq_eq, u8L_ofBytes, bytesL_ofBytes, bytesOf_ofBytes, ofBytes_plainL, ofBytes_length, putB_length, C.l2, C.d2, C.d3, C.d4, C.t8, C.d12, p1, AV.isInt, AV.intOf]; done)
          | (simp [p3, nbeq, nble, iltB_eq, ileB_eq, ieqB_eq, bytesEq_eq, u8L_ofBytes, bytesL_ofBytes, bytesOf_ofBytes, ofBytes_plainL, ofBytes_length, putB_length, C.l2, C.d2, C.d3, C.d4, C.t8, C.d12, p1, AV.isInt, AV.intOf]; omega))
      replace key := key (by
        (try simp only [C.s0, C.s1, C.s2, C.s3, C.s4, C.s5, C.s6, C.s7, p2, zero_of])
        first
          | done
          | rfl
          | exact lt3
          | exact le16
          | exact ofBytes_plainL _
          | exact u8L_ofBytes _
          | (simp [p3, nbeq, nble, iltB_eq, ileB_eq, ieqB_eq, bytesEq_eq, u8L_ofBytes, bytesL_ofBytes, bytesOf_ofBytes, ofBytes_plainL, ofBytes_length, putB_length, C.l2, C.d2, C.d3, C.d4, C.t8, C.d12, p1, AV.isInt, AV.intOf]; done)
          | (simp [p3, nbeq, nble, iltB_eq, ileB_eq, ieqB_eq, bytesEq_eq, u8L_ofBytes, bytesL_ofBytes, bytesOf_ofBytes, ofBytes_plainL, ofBytes_length, putB_length, C.l2, C.d2, C.d3, C.d4, C.t8, C.d12, p1, AV.isInt, AV.intOf]; omega))
      replace key := key (by
        (try simp only [C.s0, C.s1, C.s2, C.s3, C.s4, C.s5, C.s6, C.s7, p2, zero_of])
        first
          | done
          | rfl
          | exact lt3
          | exact le16
          | exact ofBytes_plainL _
          | exact u8L_ofBytes _
          | (simp [p3, nbeq, nble, iltB_eq, ileB_eq, ieqB_eq, bytesEq_eq, u8L_ofBytes, bytesL_ofBytes, bytesOf_ofBytes, ofBytes_plainL, ofBytes_length, putB_length, C.l2, C.d2, C.d3, C.d4, C.t8, C.d12, p1, AV.isInt, AV.intOf]; done)
          | (simp [p3, nbeq, nble, iltB_eq, ileB_eq, ieqB_eq, bytesEq_eq, u8L_ofBytes, bytesL_ofBytes, bytesOf_ofBytes, ofBytes_plainL, ofBytes_length, putB_length, C.l2, C.d2, C.d3, C.d4, C.t8, C.d12, p1, AV.isInt, AV.intOf]; omega))
      replace key := key (by
        (try simp only [C.s0, C.s1, C.s2, C.s3, C.s4, C.s5, C.s6, C.s7, p2, zero_of])
        first
          | done
          | rfl
          | exact lt3
          | exact le16
          | exact ofBytes_plainL _
          | exact u8L_ofBytes _
          | (simp [p3, nbeq, nble, iltB_eq, ileB_eq, ieqB_eq, bytesEq_eq, u8L_ofBytes, bytesL_ofBytes, bytesOf_ofBytes, ofBytes_plainL, ofBytes_length, putB_length, C.l2, C.d2, C.d3, C.d4, C.t8, C.d12, p1, AV.isInt, AV.intOf]; done)
          | (simp [p3, nbeq, nble, iltB_eq, ileB_eq, ieqB_eq, bytesEq_eq, u8L_ofBytes, bytesL_ofBytes, bytesOf_ofBytes, ofBytes_plainL, ofBytes_length, putB_length, C.l2, C.d2, C.d3, C.d4, C.t8, C.d12, p1, AV.isInt, AV.intOf]; omega))
      replace key := key (by
        (try simp only [C.s0, C.s1, C.s2, C.s3, C.s4, C.s5, C.s6, C.s7, p2, zero_of])
        first
          | done
          | rfl
          | exact lt3
          | exact le16
          | exact ofBytes_plainL _
          | exact u8L_ofBytes _
          | (simp [p3, nbeq, nble, iltB_eq, ileB_eq, ieqB_eq, bytesEq_eq, u8L_ofBytes, bytesL_ofBytes, bytesOf_ofBytes, ofBytes_plainL, ofBytes_length, putB_length, C.l2, C.d2, C.d3, C.d4, C.t8, C.d12, p1, AV.isInt, AV.intOf]; done)
          | (simp [p3, nbeq, nble, iltB_eq, ileB_eq, ieqB_eq, bytesEq_eq, u8L_ofBytes, bytesL_ofBytes, bytesOf_ofBytes, ofBytes_plainL, ofBytes_length, putB_length, C.l2, C.d2, C.d3, C.d4, C.t8, C.d12, p1, AV.isInt, AV.intOf]; omega))
      replace key := key (by
        (try simp only [C.s0, C.s1, C.s2, C.s3, C.s4, C.s5, C.s6, C.s7, p2, zero_of])
        first
          | done
          | rfl
          | exact lt3
          | exact le16
          | exact ofBytes_plainL _
          | exact u8L_ofBytes _
          | (simp [p3, nbeq, nble, iltB_eq, ileB_eq, ieqB_eq, bytesEq_eq, u8L_ofBytes, bytesL_ofBytes, bytesOf_ofBytes, ofBytes_plainL, ofBytes_length, putB_length, C.l2, C.d2, C.d3, C.d4, C.t8, C.d12, p1, AV.isInt, AV.intOf]; done)
          | (simp [p3, nbeq, nble, iltB_eq, ileB_eq, ieqB_eq, bytesEq_eq, u8L_ofBytes, bytesL_ofBytes, bytesOf_ofBytes, ofBytes_plainL, ofBytes_length, putB_length, C.l2, C.d2, C.d3, C.d4, C.t8, C.d12, p1, AV.isInt, AV.intOf]; omega))
      replace key := key (by
        (try simp only [C.s0, C.s1, C.s2, C.s3, C.s4, C.s5, C.s6, C.s7, p2, zero_of])
        first
          | done
          | rfl
          | exact lt3
          | exact le16
          | exact ofBytes_plainL _
          | exact u8L_ofBytes _
          | (simp [p3, nbeq, nble, iltB_eq, ileB_eq, ieqB_eq, bytesEq_eq, u8L_ofBytes, bytesL_ofBytes, bytesOf_ofBytes, ofBytes_plainL, ofBytes_length, putB_length, C.l2, C.d2, C.d3, C.d4, C.t8, C.d12, p1, AV.isInt, AV.intOf]; done)
          | (simp [p3, nbeq, nble, iltB_eq, ileB_eq, ieqB_eq, bytesEq_eq, u8L_ofBytes, bytesL_ofBytes, bytesOf_ofBytes, ofBytes_plainL, ofBytes_length, putB_length, C.l2, C.d2, C.d3, C.d4, C.t8, C.d12, p1, AV.isInt, AV.intOf]; omega))
      replace key := key (by
        (try simp only [C.s0, C.s1, C.s2, C.s3, C.s4, C.s5, C.s6, C.s7, p2, zero_of])
        first
          | done
          | rfl
          | exact lt3
          | exact le16
          | exact ofBytes_plainL _
          | exact u8L_ofBytes _
          | (simp [p3, nbeq, nble, iltB_eq, ileB_eq, ieqB_eq, bytesEq_eq, u8L_ofBytes, bytesL_ofBytes, bytesOf_ofBytes, ofBytes_plainL, ofBytes_length, putB_length, C.l2, C.d2, C.d3, C.d4, C.t8, C.d12, p1, AV.isInt, AV.intOf]; done)
          | (simp [p3, nbeq, nble, iltB_eq, ileB_eq, ieqB_eq, bytesEq_eq, u8L_ofBytes, bytesL_ofBytes, bytesOf_ofBytes, ofBytes_plainL, ofBytes_length, putB_length, C.l2, C.d2, C.d3, C.d4, C.t8, C.d12, p1, AV.isInt, AV.intOf]; omega))
      replace key := key (by
        (try simp only [C.s0, C.s1, C.s2, C.s3, C.s4, C.s5, C.s6, C.s7, p2, zero_of])
        first
          | done
          | rfl
          | exact lt3
          | exact le16
          | exact ofBytes_plainL _
          | exact u8L_ofBytes _
          | (simp [p3, nbeq, nble, iltB_eq, ileB_eq, ieqB_eq, bytesEq_eq, u8L_ofBytes, bytesL_ofBytes, bytesOf_ofBytes, ofBytes_plainL, ofBytes_length, putB_length, C.l2, C.d2, C.d3, C.d4, C.t8, C.d12, p1, AV.isInt, AV.intOf]; done)
          | (simp [p3, nbeq, nble, iltB_eq, ileB_eq, ieqB_eq, bytesEq_eq, u8L_ofBytes, bytesL_ofBytes, bytesOf_ofBytes, ofBytes_plainL, ofBytes_length, putB_length, C.l2, C.d2, C.d3, C.d4, C.t8, C.d12, p1, AV.isInt, AV.intOf]; omega))
      replace key := key (by
        (try simp only [C.s0, C.s1, C.s2, C.s3, C.s4, C.s5, C.s6, C.s7, p2, zero_of])
        first
          | done
          | rfl
          | exact lt3
          | exact le16
          | exact ofBytes_plainL _
          | exact u8L_ofBytes _
          | (simp [p3, nbeq, nble, iltB_eq, ileB_eq, ieqB_eq, bytesEq_eq, u8L_ofBytes, bytesL_ofBytes, bytesOf_ofBytes, ofBytes_plainL, ofBytes_length, putB_length, C.l2, C.d2, C.d3, C.d4, C.t8, C.d12, p1, AV.isInt, AV.intOf]; done)
          | (simp [p3, nbeq, nble, iltB_eq, ileB_eq, ieqB_eq, bytesEq_eq, u8L_ofBytes, bytesL_ofBytes, bytesOf_ofBytes, ofBytes_plainL, ofBytes_length, putB_length, C.l2, C.d2, C.d3, C.d4, C.t8, C.d12, p1, AV.isInt, AV.intOf]; omega))
      obtain ⟨h', h, _⟩ := key
      exact ⟨rfl, 60, h', h⟩
    have lt3 : iltB ((b.getD 2 0).toNat : Int) (Int.ofNat 3) = true := by rw [iltB_eq]; exact decide_eq_true p3
    by_cases p4 : ((b.getD 3 0).toNat : Int) ≤ 16
    case neg =>
      have le16 : (!ileB ((b.getD 3 0).toNat : Int) (Int.ofNat 16)) = true := by rw [ileB_eq]; simp only [Bool.not_eq_true', decide_eq_false_iff_not]; exact p4
      have key := pc_count a (ofBytes b)
      replace key := key (by
        (try simp only [C.s0, C.s1, C.s2, C.s3, C.s4, C.s5, C.s6, C.s7, p2, zero_of])
        first
          | done
          | rfl
          | exact lt3
          | exact le16
          | exact ofBytes_plainL _
          | exact u8L_ofBytes _
          | (simp [p3, p4, nbeq, nble, iltB_eq, ileB_eq, ieqB_eq, bytesEq_eq, u8L_ofBytes, bytesL_ofBytes, bytesOf_ofBytes, ofBytes_plainL, ofBytes_length, putB_length, C.l2, C.d2, C.d3, C.d4, C.t8, C.d12, p1, AV.isInt, AV.intOf]; done)
          | (simp [p3, p4, nbeq, nble, iltB_eq, ileB_eq, ieqB_eq, bytesEq_eq, u8L_ofBytes, bytesL_ofBytes, bytesOf_ofBytes, ofBytes_plainL, ofBytes_length, putB_length, C.l2, C.d2, C.d3, C.d4, C.t8, C.d12, p1, AV.isInt, AV.intOf]; omega))
      replace key := key (by
        (try simp only [C.s0, C.s1, C.s2, C.s3, C.s4, C.s5, C.s6, C.s7, p2, zero_of])
        first
          | done
          | rfl
          | exact lt3
          | exact le16
          | exact ofBytes_plainL _
          | exact u8L_ofBytes _
          | (simp [p3, p4, nbeq, nble, iltB_eq, ileB_eq, ieqB_eq, bytesEq_eq, u8L_ofBytes, bytesL_ofBytes, bytesOf_ofBytes, ofBytes_plainL, ofBytes_length, putB_length, C.l2, C.d2, C.d3, C.d4, C.t8, C.d12, p1, AV.isInt, AV.intOf]; done)
          | (simp [p3, p4, nbeq, nble, iltB_eq, ileB_eq, ieqB_eq, bytesEq_eq, u8L_ofBytes, bytesL_ofBytes, bytesOf_ofBytes, ofBytes_plainL, ofBytes_length, putB_length, C.l2, C.d2, C.d3, C.d4, C.t8, C.d12, p1, AV.isInt, AV.intOf]; omega))
      replace key := key (by
        (try simp only [C.s0, C.s1, C.s2, C.s3, C.s4, C.s5, C.s6, C.s7, p2, zero_of])
        first
          | done
          | rfl
          | exact lt3
          | exact le16
          | exact ofBytes_plainL _
          | exact u8L_ofBytes _
          | (simp [p3, p4, nbeq, nble, iltB_eq, ileB_eq, ieqB_eq, bytesEq_eq, u8L_ofBytes, bytesL_ofBytes, bytesOf_ofBytes, ofBytes_plainL, ofBytes_length, putB_length, C.l2, C.d2, C.d3, C.d4, C.t8, C.d12, p1, AV.isInt, AV.intOf]; done)
          | (simp [p3, p4, nbeq, nble, iltB_eq, ileB_eq, ieqB_eq, bytesEq_eq, u8L_ofBytes, bytesL_ofBytes, bytesOf_ofBytes, ofBytes_plainL, ofBytes_length, putB_length, C.l2, C.d2, C.d3, C.d4, C.t8, C.d12, p1, AV.isInt, AV.intOf]; omega))
      replace key := key (by
        (try simp only [C.s0, C.s1, C.s2, C.s3, C.s4, C.s5, C.s6, C.s7, p2, zero_of])
        first
          | done
          | rfl
          | exact lt3
          | exact le16
          | exact ofBytes_plainL _
          | exact u8L_ofBytes _
          | (simp [p3, p4, nbeq, nble, iltB_eq, ileB_eq, ieqB_eq, bytesEq_eq, u8L_ofBytes, bytesL_ofBytes, bytesOf_ofBytes, ofBytes_plainL, ofBytes_length, putB_length, C.l2, C.d2, C.d3, C.d4, C.t8, C.d12, p1, AV.isInt, AV.intOf]; done)
          | (simp [p3, p4, nbeq, nble, iltB_eq, ileB_eq, ieqB_eq, bytesEq_eq, u8L_ofBytes, bytesL_ofBytes, bytesOf_ofBytes, ofBytes_plainL, ofBytes_length, putB_length, C.l2, C.d2, C.d3, C.d4, C.t8, C.d12, p1, AV.isInt, AV.intOf]; omega))
      replace key := key (by
        (try simp only [C.s0, C.s1, C.s2, C.s3, C.s4, C.s5, C.s6, C.s7, p2, zero_of])
        first
          | done
          | rfl
          | exact lt3
          | exact le16
          | exact ofBytes_plainL _
          | exact u8L_ofBytes _
          | (simp [p3, p4, nbeq, nble, iltB_eq, ileB_eq, ieqB_eq, bytesEq_eq, u8L_ofBytes, bytesL_ofBytes, bytesOf_ofBytes, ofBytes_plainL, ofBytes_length, putB_length, C.l2, C.d2, C.d3, C.d4, C.t8, C.d12, p1, AV.isInt, AV.intOf]; done)
          | (simp [p3, p4, nbeq, nble, iltB_eq, ileB_eq, ieqB_eq, bytesEq_eq, u8L_ofBytes, bytesL_ofBytes, bytesOf_ofBytes, ofBytes_plainL, ofBytes_length, putB_length, C.l2, C.d2, C.d3, C.d4, C.t8, C.d12, p1, AV.isInt, AV.intOf]; omega))
      replace key := key (by
        (try simp only [C.s0, C.s1, C.s2, C.s3, C.s4, C.s5, C.s6, C.s7, p2, zero_of])
        first
          | done
          | rfl
          | exact lt3
          | exact le16
          | exact ofBytes_plainL _
          | exact u8L_ofBytes _
          | (simp [p3, p4, nbeq, nble, iltB_eq, ileB_eq, ieqB_eq, bytesEq_eq, u8L_ofBytes, bytesL_ofBytes, bytesOf_ofBytes, ofBytes_plainL, ofBytes_length, putB_length, C.l2, C.d2, C.d3, C.d4, C.t8, C.d12, p1, AV.isInt, AV.intOf]; done)
          | (simp [p3, p4, nbeq, nble, iltB_eq, ileB_eq, ieqB_eq, bytesEq_eq, u8L_ofBytes, bytesL_ofBytes, bytesOf_ofBytes, ofBytes_plainL, ofBytes_length, putB_length, C.l2, C.d2, C.d3, C.d4, C.t8, C.d12, p1, AV.isInt, AV.intOf]; omega))
      replace key := key (by
        (try simp only [C.s0, C.s1, C.s2, C.s3, C.s4, C.s5, C.s6, C.s7, p2, zero_of])
        first
          | done
          | rfl
          | exact lt3
          | exact le16
          | exact ofBytes_plainL _
          | exact u8L_ofBytes _
          | (simp [p3, p4, nbeq, nble, iltB_eq, ileB_eq, ieqB_eq, bytesEq_eq, u8L_ofBytes, bytesL_ofBytes, bytesOf_ofBytes, ofBytes_plainL, ofBytes_length, putB_length, C.l2, C.d2, C.d3, C.d4, C.t8, C.d12, p1, AV.isInt, AV.intOf]; done)
          | (simp [p3, p4, nbeq, nble, iltB_eq, ileB_eq, ieqB_eq, bytesEq_eq, u8L_ofBytes, bytesL_ofBytes, bytesOf_ofBytes, ofBytes_plainL, ofBytes_length, putB_length, C.l2, C.d2, C.d3, C.d4, C.t8, C.d12, p1, AV.isInt, AV.intOf]; omega))
      replace key := key (by
        (try simp only [C.s0, C.s1, C.s2, C.s3, C.s4, C.s5, C.s6, C.s7, p2, zero_of])
        first
          | done
          | rfl
          | exact lt3
          | exact le16
          | exact ofBytes_plainL _
          | exact u8L_ofBytes _
          | (simp [p3, p4, nbeq, nble, iltB_eq, ileB_eq, ieqB_eq, bytesEq_eq, u8L_ofBytes, bytesL_ofBytes, bytesOf_ofBytes, ofBytes_plainL, ofBytes_length, putB_length, C.l2, C.d2, C.d3, C.d4, C.t8, C.d12, p1, AV.isInt, AV.intOf]; done)
          | (simp [p3, p4, nbeq, nble, iltB_eq, ileB_eq, ieqB_eq, bytesEq_eq, u8L_ofBytes, bytesL_ofBytes, bytesOf_ofBytes, ofBytes_plainL, ofBytes_length, putB_length, C.l2, C.d2, C.d3, C.d4, C.t8, C.d12, p1, AV.isInt, AV.intOf]; omega))
      replace key := key (by
        (try simp only [C.s0, C.s1, C.s2, C.s3, C.s4, C.s5, C.s6, C.s7, p2, zero_of])
        first
          | done
          | rfl
          | exact lt3
          | exact le16
          | exact ofBytes_plainL _
          | exact u8L_ofBytes _
          | (simp [p3, p4, nbeq, nble, iltB_eq, ileB_eq, ieqB_eq, bytesEq_eq, u8L_ofBytes, bytesL_ofBytes, bytesOf_ofBytes, ofBytes_plainL, ofBytes_length, putB_length, C.l2, C.d2, C.d3, C.d4, C.t8, C.d12, p1, AV.isInt, AV.intOf]; done)
          | (simp [p3, p4, nbeq, nble, iltB_eq, ileB_eq, ieqB_eq, bytesEq_eq, u8L_ofBytes, bytesL_ofBytes, bytesOf_ofBytes, ofBytes_plainL, ofBytes_length, putB_length, C.l2, C.d2, C.d3, C.d4, C.t8, C.d12, p1, AV.isInt, AV.intOf]; omega))
      replace key := key (by
        (try simp only [C.s0, C.s1, C.s2, C.s3, C.s4, C.s5, C.s6, C.s7, p2, zero_of])
        first
          | done
          | rfl
          | exact lt3
          | exact le16
          | exact ofBytes_plainL _
          | exact u8L_ofBytes _
          | (simp [p3, p4, nbeq, nble, iltB_eq, ileB_eq, ieqB_eq, bytesEq_eq, u8L_ofBytes, bytesL_ofBytes, bytesOf_ofBytes, ofBytes_plainL, ofBytes_length, putB_length, C.l2, C.d2, C.d3, C.d4, C.t8, C.d12, p1, AV.isInt, AV.intOf]; done)
          | (simp [p3, p4, nbeq, nble, iltB_eq, ileB_eq, ieqB_eq, bytesEq_eq, u8L_ofBytes, bytesL_ofBytes, bytesOf_ofBytes, ofBytes_plainL, ofBytes_length, putB_length, C.l2, C.d2, C.d3, C.d4, C.t8, C.d12, p1, AV.isInt, AV.intOf]; omega))
      replace key := key (by
        (try simp only [C.s0, C.s1, C.s2, C.s3, C.s4, C.s5, C.s6, C.s7, p2, zero_of])
        first
          | done
          | rfl
          | exact lt3
          | exact le16
          | exact ofBytes_plainL _
          | exact u8L_ofBytes _
          | (simp [p3, p4, nbeq, nble, iltB_eq, ileB_eq, ieqB_eq, bytesEq_eq, u8L_ofBytes, bytesL_ofBytes, bytesOf_ofBytes, ofBytes_plainL, ofBytes_length, putB_length, C.l2, C.d2, C.d3, C.d4, C.t8, C.d12, p1, AV.isInt, AV.intOf]; done)
          | (simp [p3, p4, nbeq, nble, iltB_eq, ileB_eq, ieqB_eq, bytesEq_eq, u8L_ofBytes, bytesL_ofBytes, bytesOf_ofBytes, ofBytes_plainL, ofBytes_length, putB_length, C.l2, C.d2, C.d3, C.d4, C.t8, C.d12, p1, AV.isInt, AV.intOf]; omega))
      replace key := key (by
        (try simp only [C.s0, C.s1, C.s2, C.s3, C.s4, C.s5, C.s6, C.s7, p2, zero_of])
        first
          | done
          | rfl
          | exact lt3
          | exact le16
          | exact ofBytes_plainL _
          | exact u8L_ofBytes _
          | (simp [p3, p4, nbeq, nble, iltB_eq, ileB_eq, ieqB_eq, bytesEq_eq, u8L_ofBytes, bytesL_ofBytes, bytesOf_ofBytes, ofBytes_plainL, ofBytes_length, putB_length, C.l2, C.d2, C.d3, C.d4, C.t8, C.d12, p1, AV.isInt, AV.intOf]; done)
          | (simp [p3, p4, nbeq, nble, iltB_eq, ileB_eq, ieqB_eq, bytesEq_eq, u8L_ofBytes, bytesL_ofBytes, bytesOf_ofBytes, ofBytes_plainL, ofBytes_length, putB_length, C.l2, C.d2, C.d3, C.d4, C.t8, C.d12, p1, AV.isInt, AV.intOf]; omega))
      replace key := key (by
        (try simp only [C.s0, C.s1, C.s2, C.s3, C.s4, C.s5, C.s6, C.s7, p2, zero_of])
        first
          | done
          | rfl
          | exact lt3
          | exact le16
          | exact ofBytes_plainL _
          | exact u8L_ofBytes _
          | (simp [p3, p4, nbeq, nble, iltB_eq, ileB_eq, ieqB_eq, bytesEq_eq, u8L_ofBytes, bytesL_ofBytes, bytesOf_ofBytes, ofBytes_plainL, ofBytes_length, putB_length, C.l2, C.d2, C.d3, C.d4, C.t8, C.d12, p1, AV.isInt, AV.intOf]; done)
          | (simp [p3, p4, nbeq, nble, iltB_eq, ileB_eq, ieqB_eq, bytesEq_eq, u8L_ofBytes, bytesL_ofBytes, bytesOf_ofBytes, ofBytes_plainL, ofBytes_length, putB_length, C.l2, C.d2, C.d3, C.d4, C.t8, C.d12, p1, AV.isInt, AV.intOf]; omega))
      replace key := key (by
        (try simp only [C.s0, C.s1, C.s2, C.s3, C.s4, C.s5, C.s6, C.s7, p2, zero_of])
        first
          | done
          | rfl
          | exact lt3
          | exact le16
          | exact ofBytes_plainL _
          | exact u8L_ofBytes _
          | (simp [p3, p4, nbeq, nble, iltB_eq, ileB_eq, ieqB_eq, bytesEq_eq, u8L_ofBytes, bytesL_ofBytes, bytesOf_ofBytes, ofBytes_plainL, ofBytes_length, putB_length, C.l2, C.d2, C.d3, C.d4, C.t8, C.d12, p1, AV.isInt, AV.intOf]; done)
          | (simp [p3, p4, nbeq, nble, iltB_eq, ileB_eq, ieqB_eq, bytesEq_eq, u8L_ofBytes, bytesL_ofBytes, bytesOf_ofBytes, ofBytes_plainL, ofBytes_length, putB_length, C.l2, C.d2, C.d3, C.d4, C.t8, C.d12, p1, AV.isInt, AV.intOf]; omega))
      replace key := key (by
        (try simp only [C.s0, C.s1, C.s2, C.s3, C.s4, C.s5, C.s6, C.s7, p2, zero_of])
        first
          | done
          | rfl
          | exact lt3
          | exact le16
          | exact ofBytes_plainL _
          | exact u8L_ofBytes _
          | (simp [p3, p4, nbeq, nble, iltB_eq, ileB_eq, ieqB_eq, bytesEq_eq, u8L_ofBytes, bytesL_ofBytes, bytesOf_ofBytes, ofBytes_plainL, ofBytes_length, putB_length, C.l2, C.d2, C.d3, C.d4, C.t8, C.d12, p1, AV.isInt, AV.intOf]; done)
          | (simp [p3, p4, nbeq, nble, iltB_eq, ileB_eq, ieqB_eq, bytesEq_eq, u8L_ofBytes, bytesL_ofBytes, bytesOf_ofBytes, ofBytes_plainL, ofBytes_length, putB_length, C.l2, C.d2, C.d3, C.d4, C.t8, C.d12, p1, AV.isInt, AV.intOf]; omega))
      replace key := key (by
        (try simp only [C.s0, C.s1, C.s2, C.s3, C.s4, C.s5, C.s6, C.s7, p2, zero_of])
        first
          | done
          | rfl
          | exact lt3
          | exact le16
          | exact ofBytes_plainL _
          | exact u8L_ofBytes _
          | (simp [p3, p4, nbeq, nble, iltB_eq, ileB_eq, ieqB_eq, bytesEq_eq, u8L_ofBytes, bytesL_ofBytes, bytesOf_ofBytes, ofBytes_plainL, ofBytes_length, putB_length, C.l2, C.d2, C.d3, C.d4, C.t8, C.d12, p1, AV.isInt, AV.intOf]; done)
          | (simp [p3, p4, nbeq, nble, iltB_eq, ileB_eq, ieqB_eq, bytesEq_eq, u8L_ofBytes, bytesL_ofBytes, bytesOf_ofBytes, ofBytes_plainL, ofBytes_length, putB_length, C.l2, C.d2, C.d3, C.d4, C.t8, C.d12, p1, AV.isInt, AV.intOf]; omega))
      replace key := key (by
        (try simp only [C.s0, C.s1, C.s2, C.s3, C.s4, C.s5, C.s6, C.s7, p2, zero_of])
        first
          | done
          | rfl
          | exact lt3
          | exact le16
          | exact ofBytes_plainL _
          | exact u8L_ofBytes _
          | (simp [p3, p4, nbeq, nble, iltB_eq, ileB_eq, ieqB_eq, bytesEq_eq, u8L_ofBytes, bytesL_ofBytes, bytesOf_ofBytes, ofBytes_plainL, ofBytes_length, putB_length, C.l2, C.d2, C.d3, C.d4, C.t8, C.d12, p1, AV.isInt, AV.intOf]; done)
          | (simp [p3, p4, nbeq, nble, iltB_eq, ileB_eq, ieqB_eq, bytesEq_eq, u8L_ofBytes, bytesL_ofBytes, bytesOf_ofBytes, ofBytes_plainL, ofBytes_length, putB_length, C.l2, C.d2, C.d3, C.d4, C.t8, C.d12, p1, AV.isInt, AV.intOf]; omega))
      replace key := key (by
        (try simp only [C.s0, C.s1, C.s2, C.s3, C.s4, C.s5, C.s6, C.s7, p2, zero_of])
        first
          | done
          | rfl
          | exact lt3
          | exact le16
          | exact ofBytes_plainL _
          | exact u8L_ofBytes _
          | (simp [p3, p4, nbeq, nble, iltB_eq, ileB_eq, ieqB_eq, bytesEq_eq, u8L_ofBytes, bytesL_ofBytes, bytesOf_ofBytes, ofBytes_plainL, ofBytes_length, putB_length, C.l2, C.d2, C.d3, C.d4, C.t8, C.d12, p1, AV.isInt, AV.intOf]; done)
          | (simp [p3, p4, nbeq, nble, iltB_eq, ileB_eq, ieqB_eq, bytesEq_eq, u8L_ofBytes, bytesL_ofBytes, bytesOf_ofBytes, ofBytes_plainL, ofBytes_length, putB_length, C.l2, C.d2, C.d3, C.d4, C.t8, C.d12, p1, AV.isInt, AV.intOf]; omega))
      obtain ⟨h', h, _⟩ := key
      exact ⟨rfl, 60, h', h⟩
    have le16 : (!ileB ((b.getD 3 0).toNat : Int) (Int.ofNat 16)) = false := by rw [ileB_eq]; simp only [Bool.not_eq_false', decide_eq_true_eq]; exact p4
    have p5 : ((b.drop 12).all fun x => x == 0) = false := by
      cases hz : ((b.drop 12).all fun x => x == 0) with
      | false => rfl
      | true =>
        exfalso
        have : isCB b = true := by
          unfold isCB
          rw [hz, p2]
          simp only [Bool.and_eq_true, decide_eq_true_eq, rightC_iff]
          exact ⟨⟨⟨p1, rfl⟩, p3, p4⟩, trivial⟩
        rw [this] at c3; cases c3
    have key := pc_zero a (ofBytes b)
    replace key := key (by
      (try simp only [C.s0, C.s1, C.s2, C.s3, C.s4, C.s5, C.s6, C.s7, p2, p5, zero_of])
      first
        | done
        | rfl
        | exact lt3
        | exact le16
        | exact ofBytes_plainL _
        | exact u8L_ofBytes _
        | (simp [p3, p4, nbeq, nble, iltB_eq, ileB_eq, ieqB_eq, bytesEq_eq, u8L_ofBytes, bytesL_ofBytes, bytesOf_ofBytes, ofBytes_plainL, ofBytes_length, putB_length, C.l2, C.d2, C.d3, C.d4, C.t8, C.d12, p1, AV.isInt, AV.intOf]; done)
        | (simp [p3, p4, nbeq, nble, iltB_eq, ileB_eq, ieqB_eq, bytesEq_eq, u8L_ofBytes, bytesL_ofBytes, bytesOf_ofBytes, ofBytes_plainL, ofBytes_length, putB_length, C.l2, C.d2, C.d3, C.d4, C.t8, C.d12, p1, AV.isInt, AV.intOf]; omega))
    replace key := key (by
      (try simp only [C.s0, C.s1, C.s2, C.s3, C.s4, C.s5, C.s6, C.s7, p2, p5, zero_of])
      first
        | done
        | rfl
        | exact lt3
        | exact le16
        | exact ofBytes_plainL _
        | exact u8L_ofBytes _
        | (simp [p3, p4, nbeq, nble, iltB_eq, ileB_eq, ieqB_eq, bytesEq_eq, u8L_ofBytes, bytesL_ofBytes, bytesOf_ofBytes, ofBytes_plainL, ofBytes_length, putB_length, C.l2, C.d2, C.d3, C.d4, C.t8, C.d12, p1, AV.isInt, AV.intOf]; done)
        | (simp [p3, p4, nbeq, nble, iltB_eq, ileB_eq, ieqB_eq, bytesEq_eq, u8L_ofBytes, bytesL_ofBytes, bytesOf_ofBytes, ofBytes_plainL, ofBytes_length, putB_length, C.l2, C.d2, C.d3, C.d4, C.t8, C.d12, p1, AV.isInt, AV.intOf]; omega))
    replace key := key (by
      (try simp only [C.s0, C.s1, C.s2, C.s3, C.s4, C.s5, C.s6, C.s7, p2, p5, zero_of])
      first
        | done
        | rfl
        | exact lt3
        | exact le16
        | exact ofBytes_plainL _
        | exact u8L_ofBytes _
        | (simp [p3, p4, nbeq, nble, iltB_eq, ileB_eq, ieqB_eq, bytesEq_eq, u8L_ofBytes, bytesL_ofBytes, bytesOf_ofBytes, ofBytes_plainL, ofBytes_length, putB_length, C.l2, C.d2, C.d3, C.d4, C.t8, C.d12, p1, AV.isInt, AV.intOf]; done)
        | (simp [p3, p4, nbeq, nble, iltB_eq, ileB_eq, ieqB_eq, bytesEq_eq, u8L_ofBytes, bytesL_ofBytes, bytesOf_ofBytes, ofBytes_plainL, ofBytes_length, putB_length, C.l2, C.d2, C.d3, C.d4, C.t8, C.d12, p1, AV.isInt, AV.intOf]; omega))
    replace key := key (by
      (try simp only [C.s0, C.s1, C.s2, C.s3, C.s4, C.s5, C.s6, C.s7, p2, p5, zero_of])
      first
        | done
        | rfl
        | exact lt3
        | exact le16
        | exact ofBytes_plainL _
        | exact u8L_ofBytes _
        | (simp [p3, p4, nbeq, nble, iltB_eq, ileB_eq, ieqB_eq, bytesEq_eq, u8L_ofBytes, bytesL_ofBytes, bytesOf_ofBytes, ofBytes_plainL, ofBytes_length, putB_length, C.l2, C.d2, C.d3, C.d4, C.t8, C.d12, p1, AV.isInt, AV.intOf]; done)
        | (simp [p3, p4, nbeq, nble, iltB_eq, ileB_eq, ieqB_eq, bytesEq_eq, u8L_ofBytes, bytesL_ofBytes, bytesOf_ofBytes, ofBytes_plainL, ofBytes_length, putB_length, C.l2, C.d2, C.d3, C.d4, C.t8, C.d12, p1, AV.isInt, AV.intOf]; omega))
    replace key := key (by
      (try simp only [C.s0, C.s1, C.s2, C.s3, C.s4, C.s5, C.s6, C.s7, p2, p5, zero_of])
      first
        | done
        | rfl
        | exact lt3
        | exact le16
        | exact ofBytes_plainL _
        | exact u8L_ofBytes _
        | (simp [p3, p4, nbeq, nble, iltB_eq, ileB_eq, ieqB_eq, bytesEq_eq, u8L_ofBytes, bytesL_ofBytes, bytesOf_ofBytes, ofBytes_plainL, ofBytes_length, putB_length, C.l2, C.d2, C.d3, C.d4, C.t8, C.d12, p1, AV.isInt, AV.intOf]; done)
        | (simp [p3, p4, nbeq, nble, iltB_eq, ileB_eq, ieqB_eq, bytesEq_eq, u8L_ofBytes, bytesL_ofBytes, bytesOf_ofBytes, ofBytes_plainL, ofBytes_length, putB_length, C.l2, C.d2, C.d3, C.d4, C.t8, C.d12, p1, AV.isInt, AV.intOf]; omega))
    replace key := key (by
      (try simp only [C.s0, C.s1, C.s2, C.s3, C.s4, C.s5, C.s6, C.s7, p2, p5, zero_of])
      first
        | done
        | rfl
        | exact lt3
        | exact le16
        | exact ofBytes_plainL _
        | exact u8L_ofBytes _
        | (simp [p3, p4, nbeq, nble, iltB_eq, ileB_eq, ieqB_eq, bytesEq_eq, u8L_ofBytes, bytesL_ofBytes, bytesOf_ofBytes, ofBytes_plainL, ofBytes_length, putB_length, C.l2, C.d2, C.d3, C.d4, C.t8, C.d12, p1, AV.isInt, AV.intOf]; done)
        | (simp [p3, p4, nbeq, nble, iltB_eq, ileB_eq, ieqB_eq, bytesEq_eq, u8L_ofBytes, bytesL_ofBytes, bytesOf_ofBytes, ofBytes_plainL, ofBytes_length, putB_length, C.l2, C.d2, C.d3, C.d4, C.t8, C.d12, p1, AV.isInt, AV.intOf]; omega))
    replace key := key (by
      (try simp only [C.s0, C.s1, C.s2, C.s3, C.s4, C.s5, C.s6, C.s7, p2, p5, zero_of])
      first
        | done
        | rfl
        | exact lt3
        | exact le16
        | exact ofBytes_plainL _
        | exact u8L_ofBytes _
        | (simp [p3, p4, nbeq, nble, iltB_eq, ileB_eq, ieqB_eq, bytesEq_eq, u8L_ofBytes, bytesL_ofBytes, bytesOf_ofBytes, ofBytes_plainL, ofBytes_length, putB_length, C.l2, C.d2, C.d3, C.d4, C.t8, C.d12, p1, AV.isInt, AV.intOf]; done)
        | (simp [p3, p4, nbeq, nble, iltB_eq, ileB_eq, ieqB_eq, bytesEq_eq, u8L_ofBytes, bytesL_ofBytes, bytesOf_ofBytes, ofBytes_plainL, ofBytes_length, putB_length, C.l2, C.d2, C.d3, C.d4, C.t8, C.d12, p1, AV.isInt, AV.intOf]; omega))
    replace key := key (by
      (try simp only [C.s0, C.s1, C.s2, C.s3, C.s4, C.s5, C.s6, C.s7, p2, p5, zero_of])
      first
        | done
        | rfl
        | exact lt3
        | exact le16
        | exact ofBytes_plainL _
        | exact u8L_ofBytes _
        | (simp [p3, p4, nbeq, nble, iltB_eq, ileB_eq, ieqB_eq, bytesEq_eq, u8L_ofBytes, bytesL_ofBytes, bytesOf_ofBytes, ofBytes_plainL, ofBytes_length, putB_length, C.l2, C.d2, C.d3, C.d4, C.t8, C.d12, p1, AV.isInt, AV.intOf]; done)
        | (simp [p3, p4, nbeq, nble, iltB_eq, ileB_eq, ieqB_eq, bytesEq_eq, u8L_ofBytes, bytesL_ofBytes, bytesOf_ofBytes, ofBytes_plainL, ofBytes_length, putB_length, C.l2, C.d2, C.d3, C.d4, C.t8, C.d12, p1, AV.isInt, AV.intOf]; omega))
    replace key := key (by
      (try simp only [C.s0, C.s1, C.s2, C.s3, C.s4, C.s5, C.s6, C.s7, p2, p5, zero_of])
      first
        | done
        | rfl
        | exact lt3
        | exact le16
        | exact ofBytes_plainL _
        | exact u8L_ofBytes _
        | (simp [p3, p4, nbeq, nble, iltB_eq, ileB_eq, ieqB_eq, bytesEq_eq, u8L_ofBytes, bytesL_ofBytes, bytesOf_ofBytes, ofBytes_plainL, ofBytes_length, putB_length, C.l2, C.d2, C.d3, C.d4, C.t8, C.d12, p1, AV.isInt, AV.intOf]; done)
        | (simp [p3, p4, nbeq, nble, iltB_eq, ileB_eq, ieqB_eq, bytesEq_eq, u8L_ofBytes, bytesL_ofBytes, bytesOf_ofBytes, ofBytes_plainL, ofBytes_length, putB_length, C.l2, C.d2, C.d3, C.d4, C.t8, C.d12, p1, AV.isInt, AV.intOf]; omega))
    replace key := key (by
      (try simp only [C.s0, C.s1, C.s2, C.s3, C.s4, C.s5, C.s6, C.s7, p2, p5, zero_of])
      first
        | done
        | rfl
        | exact lt3
        | exact le16
        | exact ofBytes_plainL _
        | exact u8L_ofBytes _
        | (simp [p3, p4, nbeq, nble, iltB_eq, ileB_eq, ieqB_eq, bytesEq_eq, u8L_ofBytes, bytesL_ofBytes, bytesOf_ofBytes, ofBytes_plainL, ofBytes_length, putB_length, C.l2, C.d2, C.d3, C.d4, C.t8, C.d12, p1, AV.isInt, AV.intOf]; done)
        | (simp [p3, p4, nbeq, nble, iltB_eq, ileB_eq, ieqB_eq, bytesEq_eq, u8L_ofBytes, bytesL_ofBytes, bytesOf_ofBytes, ofBytes_plainL, ofBytes_length, putB_length, C.l2, C.d2, C.d3, C.d4, C.t8, C.d12, p1, AV.isInt, AV.intOf]; omega))
    replace key := key (by
      (try simp only [C.s0, C.s1, C.s2, C.s3, C.s4, C.s5, C.s6, C.s7, p2, p5, zero_of])
      first
        | done
        | rfl
        | exact lt3
        | exact le16
        | exact ofBytes_plainL _
        | exact u8L_ofBytes _
        | (simp [p3, p4, nbeq, nble, iltB_eq, ileB_eq, ieqB_eq, bytesEq_eq, u8L_ofBytes, bytesL_ofBytes, bytesOf_ofBytes, ofBytes_plainL, ofBytes_length, putB_length, C.l2, C.d2, C.d3, C.d4, C.t8, C.d12, p1, AV.isInt, AV.intOf]; done)
        | (simp [p3, p4, nbeq, nble, iltB_eq, ileB_eq, ieqB_eq, bytesEq_eq, u8L_ofBytes, bytesL_ofBytes, bytesOf_ofBytes, ofBytes_plainL, ofBytes_length, putB_length, C.l2, C.d2, C.d3, C.d4, C.t8, C.d12, p1, AV.isInt, AV.intOf]; omega))
    replace key := key (by
      (try simp only [C.s0, C.s1, C.s2, C.s3, C.s4, C.s5, C.s6, C.s7, p2, p5, zero_of])
      first
        | done
        | rfl
        | exact lt3
        | exact le16
        | exact ofBytes_plainL _
        | exact u8L_ofBytes _
        | (simp [p3, p4, nbeq, nble, iltB_eq, ileB_eq, ieqB_eq, bytesEq_eq, u8L_ofBytes, bytesL_ofBytes, bytesOf_ofBytes, ofBytes_plainL, ofBytes_length, putB_length, C.l2, C.d2, C.d3, C.d4, C.t8, C.d12, p1, AV.isInt, AV.intOf]; done)
        | (simp [p3, p4, nbeq, nble, iltB_eq, ileB_eq, ieqB_eq, bytesEq_eq, u8L_ofBytes, bytesL_ofBytes, bytesOf_ofBytes, ofBytes_plainL, ofBytes_length, putB_length, C.l2, C.d2, C.d3, C.d4, C.t8, C.d12, p1, AV.isInt, AV.intOf]; omega))
    replace key := key (by
      (try simp only [C.s0, C.s1, C.s2, C.s3, C.s4, C.s5, C.s6, C.s7, p2, p5, zero_of])
      first
        | done
        | rfl
        | exact lt3
        | exact le16
        | exact ofBytes_plainL _
        | exact u8L_ofBytes _
        | (simp [p3, p4, nbeq, nble, iltB_eq, ileB_eq, ieqB_eq, bytesEq_eq, u8L_ofBytes, bytesL_ofBytes, bytesOf_ofBytes, ofBytes_plainL, ofBytes_length, putB_length, C.l2, C.d2, C.d3, C.d4, C.t8, C.d12, p1, AV.isInt, AV.intOf]; done)
        | (simp [p3, p4, nbeq, nble, iltB_eq, ileB_eq, ieqB_eq, bytesEq_eq, u8L_ofBytes, bytesL_ofBytes, bytesOf_ofBytes, ofBytes_plainL, ofBytes_length, putB_length, C.l2, C.d2, C.d3, C.d4, C.t8, C.d12, p1, AV.isInt, AV.intOf]; omega))
    replace key := key (by
      (try simp only [C.s0, C.s1, C.s2, C.s3, C.s4, C.s5, C.s6, C.s7, p2, p5, zero_of])
      first
        | done
        | rfl
        | exact lt3
        | exact le16
        | exact ofBytes_plainL _
        | exact u8L_ofBytes _
        | (simp [p3, p4, nbeq, nble, iltB_eq, ileB_eq, ieqB_eq, bytesEq_eq, u8L_ofBytes, bytesL_ofBytes, bytesOf_ofBytes, ofBytes_plainL, ofBytes_length, putB_length, C.l2, C.d2, C.d3, C.d4, C.t8, C.d12, p1, AV.isInt, AV.intOf]; done)
        | (simp [p3, p4, nbeq, nble, iltB_eq, ileB_eq, ieqB_eq, bytesEq_eq, u8L_ofBytes, bytesL_ofBytes, bytesOf_ofBytes, ofBytes_plainL, ofBytes_length, putB_length, C.l2, C.d2, C.d3, C.d4, C.t8, C.d12, p1, AV.isInt, AV.intOf]; omega))
    replace key := key (by
      (try simp only [C.s0, C.s1, C.s2, C.s3, C.s4, C.s5, C.s6, C.s7, p2, p5, zero_of])
      first
        | done
        | rfl
        | exact lt3
        | exact le16
        | exact ofBytes_plainL _
        | exact u8L_ofBytes _
        | (simp [p3, p4, nbeq, nble, iltB_eq, ileB_eq, ieqB_eq, bytesEq_eq, u8L_ofBytes, bytesL_ofBytes, bytesOf_ofBytes, ofBytes_plainL, ofBytes_length, putB_length, C.l2, C.d2, C.d3, C.d4, C.t8, C.d12, p1, AV.isInt, AV.intOf]; done)
        | (simp [p3, p4, nbeq, nble, iltB_eq, ileB_eq, ieqB_eq, bytesEq_eq, u8L_ofBytes, bytesL_ofBytes, bytesOf_ofBytes, ofBytes_plainL, ofBytes_length, putB_length, C.l2, C.d2, C.d3, C.d4, C.t8, C.d12, p1, AV.isInt, AV.intOf]; omega))
    replace key := key (by
      (try simp only [C.s0, C.s1, C.s2, C.s3, C.s4, C.s5, C.s6, C.s7, p2, p5, zero_of])
      first
        | done
        | rfl
        | exact lt3
        | exact le16
        | exact ofBytes_plainL _
        | exact u8L_ofBytes _
        | (simp [p3, p4, nbeq, nble, iltB_eq, ileB_eq, ieqB_eq, bytesEq_eq, u8L_ofBytes, bytesL_ofBytes, bytesOf_ofBytes, ofBytes_plainL, ofBytes_length, putB_length, C.l2, C.d2, C.d3, C.d4, C.t8, C.d12, p1, AV.isInt, AV.intOf]; done)
        | (simp [p3, p4, nbeq, nble, iltB_eq, ileB_eq, ieqB_eq, bytesEq_eq, u8L_ofBytes, bytesL_ofBytes, bytesOf_ofBytes, ofBytes_plainL, ofBytes_length, putB_length, C.l2, C.d2, C.d3, C.d4, C.t8, C.d12, p1, AV.isInt, AV.intOf]; omega))
    replace key := key (by
      (try simp only [C.s0, C.s1, C.s2, C.s3, C.s4, C.s5, C.s6, C.s7, p2, p5, zero_of])
      first
        | done
        | rfl
        | exact lt3
        | exact le16
        | exact ofBytes_plainL _
        | exact u8L_ofBytes _
        | (simp [p3, p4, nbeq, nble, iltB_eq, ileB_eq, ieqB_eq, bytesEq_eq, u8L_ofBytes, bytesL_ofBytes, bytesOf_ofBytes, ofBytes_plainL, ofBytes_length, putB_length, C.l2, C.d2, C.d3, C.d4, C.t8, C.d12, p1, AV.isInt, AV.intOf]; done)
        | (simp [p3, p4, nbeq, nble, iltB_eq, ileB_eq, ieqB_eq, bytesEq_eq, u8L_ofBytes, bytesL_ofBytes, bytesOf_ofBytes, ofBytes_plainL, ofBytes_length, putB_length, C.l2, C.d2, C.d3, C.d4, C.t8, C.d12, p1, AV.isInt, AV.intOf]; omega))
    replace key := key (by
      (try simp only [C.s0, C.s1, C.s2, C.s3, C.s4, C.s5, C.s6, C.s7, p2, p5, zero_of])
      first
        | done
        | rfl
        | exact lt3
        | exact le16
        | exact ofBytes_plainL _
        | exact u8L_ofBytes _
        | (simp [p3, p4, nbeq, nble, iltB_eq, ileB_eq, ieqB_eq, bytesEq_eq, u8L_ofBytes, bytesL_ofBytes, bytesOf_ofBytes, ofBytes_plainL, ofBytes_length, putB_length, C.l2, C.d2, C.d3, C.d4, C.t8, C.d12, p1, AV.isInt, AV.intOf]; done)
        | (simp [p3, p4, nbeq, nble, iltB_eq, ileB_eq, ieqB_eq, bytesEq_eq, u8L_ofBytes, bytesL_ofBytes, bytesOf_ofBytes, ofBytes_plainL, ofBytes_length, putB_length, C.l2, C.d2, C.d3, C.d4, C.t8, C.d12, p1, AV.isInt, AV.intOf]; omega))
    replace key := key (by
      (try simp only [C.s0, C.s1, C.s2, C.s3, C.s4, C.s5, C.s6, C.s7, p2, p5, zero_of])
      first
        | done
        | rfl
        | exact lt3
        | exact le16
        | exact ofBytes_plainL _
        | exact u8L_ofBytes _
        | (simp [p3, p4, nbeq, nble, iltB_eq, ileB_eq, ieqB_eq, bytesEq_eq, u8L_ofBytes, bytesL_ofBytes, bytesOf_ofBytes, ofBytes_plainL, ofBytes_length, putB_length, C.l2, C.d2, C.d3, C.d4, C.t8, C.d12, p1, AV.isInt, AV.intOf]; done)
        | (simp [p3, p4, nbeq, nble, iltB_eq, ileB_eq, ieqB_eq, bytesEq_eq, u8L_ofBytes, bytesL_ofBytes, bytesOf_ofBytes, ofBytes_plainL, ofBytes_length, putB_length, C.l2, C.d2, C.d3, C.d4, C.t8, C.d12, p1, AV.isInt, AV.intOf]; omega))
    replace key := key (by
      (try simp only [C.s0, C.s1, C.s2, C.s3, C.s4, C.s5, C.s6, C.s7, p2, p5, zero_of])
      first
        | done
        | rfl
        | exact lt3
        | exact le16
        | exact ofBytes_plainL _
        | exact u8L_ofBytes _
        | (simp [p3, p4, nbeq, nble, iltB_eq, ileB_eq, ieqB_eq, bytesEq_eq, u8L_ofBytes, bytesL_ofBytes, bytesOf_ofBytes, ofBytes_plainL, ofBytes_length, putB_length, C.l2, C.d2, C.d3, C.d4, C.t8, C.d12, p1, AV.isInt, AV.intOf]; done)
        | (simp [p3, p4, nbeq, nble, iltB_eq, ileB_eq, ieqB_eq, bytesEq_eq, u8L_ofBytes, bytesL_ofBytes, bytesOf_ofBytes, ofBytes_plainL, ofBytes_length, putB_length, C.l2, C.d2, C.d3, C.d4, C.t8, C.d12, p1, AV.isInt, AV.intOf]; omega))
    replace key := key (by
      (try simp only [C.s0, C.s1, C.s2, C.s3, C.s4, C.s5, C.s6, C.s7, p2, p5, zero_of])
      first
        | done
        | rfl
        | exact lt3
        | exact le16
        | exact ofBytes_plainL _
        | exact u8L_ofBytes _
        | (simp [p3, p4, nbeq, nble, iltB_eq, ileB_eq, ieqB_eq, bytesEq_eq, u8L_ofBytes, bytesL_ofBytes, bytesOf_ofBytes, ofBytes_plainL, ofBytes_length, putB_length, C.l2, C.d2, C.d3, C.d4, C.t8, C.d12, p1, AV.isInt, AV.intOf]; done)
        | (simp [p3, p4, nbeq, nble, iltB_eq, ileB_eq, ieqB_eq, bytesEq_eq, u8L_ofBytes, bytesL_ofBytes, bytesOf_ofBytes, ofBytes_plainL, ofBytes_length, putB_length, C.l2, C.d2, C.d3, C.d4, C.t8, C.d12, p1, AV.isInt, AV.intOf]; omega))
    replace key := key (by
      (try simp only [C.s0, C.s1, C.s2, C.s3, C.s4, C.s5, C.s6, C.s7, p2, p5, zero_of])
      first
        | done
        | rfl
        | exact lt3
        | exact le16
        | exact ofBytes_plainL _
        | exact u8L_ofBytes _
        | (simp [p3, p4, nbeq, nble, iltB_eq, ileB_eq, ieqB_eq, bytesEq_eq, u8L_ofBytes, bytesL_ofBytes, bytesOf_ofBytes, ofBytes_plainL, ofBytes_length, putB_length, C.l2, C.d2, C.d3, C.d4, C.t8, C.d12, p1, AV.isInt, AV.intOf]; done)
        | (simp [p3, p4, nbeq, nble, iltB_eq, ileB_eq, ieqB_eq, bytesEq_eq, u8L_ofBytes, bytesL_ofBytes, bytesOf_ofBytes, ofBytes_plainL, ofBytes_length, putB_length, C.l2, C.d2, C.d3, C.d4, C.t8, C.d12, p1, AV.isInt, AV.intOf]; omega))
    obtain ⟨h', h, _⟩ := key
    exact ⟨rfl, 60, h', h⟩
  · cases hm
end Go.Proofs.Ytecncappdnhbaaa
end
end

/- Functions that a symbolic run runs through: their calls are closed. -/
section
set_option autoImplicit false
set_option linter.unusedVariables false
set_option linter.unusedSimpArgs false
set_option linter.unusedSectionVars false
noncomputable section
namespace Go.Ab
open Go.RowKit

def runSum (cx : Cx) (F : Nat) (gs : List FuncId) (rest : FuncId → List AV → Heap → Option (AV × Heap)) : FuncId → List AV → Heap → Option (AV × Heap) := fun g args H => cb (memB g gs) (aCall cx F (.fn g) args H) (rest g args H)
def runSumS (cx : Cx) (F : Nat) (gs : List FuncId) (rest : FuncId → Option (List AV → Heap → S (AV × Heap))) : FuncId → Option (List AV → Heap → S (AV × Heap)) := fun g => cb (memB g gs) (some fun args H => S.lift (aCall cx F (.fn g) args H)) (rest g)
/-- gs: functions that are run through, with what is known of tf, lf. -/
def mkCxR (ty : TypeId → Option ATy) (fn : FuncId → Option Func) (ft : TTab) (lt : MTab) (F : Nat) (gs : List FuncId) : Cx := { ty := ty, fn := fn, sum := runSum (mkCxT ty fn ft lt) F gs (ftSum ty (ttTab ft)), loop := mtLoop lt }
def mkSR (ty : TypeId → Option ATy) (fn : FuncId → Option Func) (ft : TTab) (lt : MTab) (F : Nat) (gs : List FuncId) : SumS := { fn := runSumS (mkCxT ty fn ft lt) F gs (ttSumS ty ft), loop := mtLoopS lt }
theorem mkSR_ok (ty : TypeId → Option ATy) (fn : FuncId → Option Func) (ft : TTab) (lt : MTab) (F : Nat) (gs : List FuncId) : SumsOK (mkCxR ty fn ft lt F gs) (mkSR ty fn ft lt F gs) := by
  have h0 := mkST_ok ty fn ft lt
  refine ⟨fun g m args H hm => ?_, fun g args H hm => ?_, mtLoops_snd rfl⟩
  · change cb (memB g gs) (some fun args H => S.lift (aCall (mkCxT ty fn ft lt) F (.fn g) args H)) (ttSumS ty ft g) = some m at hm
    show Snd (m args H) (cb (memB g gs) (aCall (mkCxT ty fn ft lt) F (.fn g) args H) (ftSum ty (ttTab ft) g args H))
    cases hb : memB g gs with
    | true => rw [hb, cb_true] at hm; injection hm with hm; subst hm; exact Snd.lift _
    | false => rw [hb, cb_false] at hm; exact h0.yes g m args H hm
  · change cb (memB g gs) (some fun args H => S.lift (aCall (mkCxT ty fn ft lt) F (.fn g) args H)) (ttSumS ty ft g) = none at hm
    show cb (memB g gs) (aCall (mkCxT ty fn ft lt) F (.fn g) args H) (ftSum ty (ttTab ft) g args H) = none
    cases hb : memB g gs with
    | true => rw [hb] at hm; cases hm
    | false => rw [hb, cb_false] at hm; exact h0.no g args H hm
theorem sums_allR {P : Program} {ty : TypeId → Option ATy} {fn : FuncId → Option Func} {ft : TTab} {lt : MTab} {F : Nat} {gs : List FuncId} (hcx : CxOK P (mkCxT ty fn ft lt)) (hf : TOK P ty ft) (hl : MOK P ty lt) : SumAll P (mkCxR ty fn ft lt F gs) := by
  have hs := sums_allT (fn := fn) hf hl
  refine ⟨fun base w0 => ?_, fun base w0 => mtLoops_ok (cx := mkCxR ty fn ft lt F gs) rfl (fun p hp vs bs conds X vs' bs' h1 h2 h3 h4 => by
    obtain ⟨k1, k3⟩ := hl.mem p hp vs bs conds X vs' bs' h1 h2 h3 h4
    exact ⟨k1, ⟨fun {_ _ _ _ _ _ _ _} => k3.ok⟩⟩) base w0⟩
  intro g args H H' v μ w xs hsum hw hr r n
  change cb (memB g gs) (aCall (mkCxT ty fn ft lt) F (.fn g) args H) (ftSum ty (ttTab ft) g args H) = some (v, H') at hsum
  cases hb : memB g gs with
  | true =>
    rw [hb, cb_true] at hsum
    exact ((aCall_sound hcx (hs.sum base w0) (hs.loop base w0) F).fn hsum hw hr).2 r n
  | false =>
    rw [hb, cb_false] at hsum
    exact hs.sum base w0 (g := g) (args := args) (H := H) (H' := H') (v := v) (μ := μ) (w := w) (xs := xs) hsum hw hr r n
theorem call_runR {ty : TypeId → Option ATy} {fn : FuncId → Option Func} {ft : TTab} {lt : MTab} {F : Nat} {gs : List FuncId} {f : Nat} {t : Tgt} {args : List AV} {H : Heap} {v : AV} {ids : List Nat} {bs : List Blk} {q : List Ans} {c : List Cnd}
    (h : part (pCallB ids) (callS (mkCxR ty fn ft lt F gs) (mkSR ty fn ft lt F gs) f t args H q) = some ((v, bs), c)) (hc : HoldsL c) : ∃ h', aCall (mkCxR ty fn ft lt F gs) f t args H = some (v, h') ∧ ids.map h'.get = bs := by
  obtain ⟨⟨v', h'⟩, q', h1, h2⟩ := part_eq h
  injection h2 with h2 h3
  subst h2
  exact ⟨h', callS_snd _ (mkSR_ok ty fn ft lt F gs) f t args H q _ q' c h1 hc, h3⟩
/-- of a closed run only the value counts. -/
theorem run_val {cx : Cx} {f : Nat} {t : Tgt} {args : List AV} {H : Heap} {v : AV} (h : ((aCall cx f t args H).ob fun r => some r.1) = some v) : ∃ h', aCall cx f t args H = some (v, h') := by
  replace h := ob_eq h
  obtain ⟨⟨v', h'⟩, h1, h2⟩ := h
  injection h2 with h2; subst h2
  exact ⟨h', h1⟩
end Go.Ab
end
end

/- SectorCommits: what is known of the functions that the law calls. -/
section
set_option autoImplicit false
set_option linter.unusedVariables false
set_option linter.unusedSimpArgs false
set_option maxRecDepth 100000
noncomputable section
namespace Go.Proofs.Ytecncappdnhbaaa
open Go.Ab.M Go.Ab Go
theorem lives14_ok : RSum.Sound Try.prog tys 40 (RSum.const (.bool true)) := RSum.sound (cx_goes _ _) all0 (RSum.const_ok rfl (run_val (f := 100) (by kernel_rfl)))
def rT1 : List AV → Bool := fun us => match us with
  | [.agg [.int .u8 s, .int .u8 c, .int .u64 g]] => kept (rightC s c)
  | _ => false
def rT2 : List AV → Bool := fun us => match us with
  | [.int .u8 s, .int .u8 c, .int .u64 g] => kept (rightC s c)
  | _ => false
def rT3 : List AV → Bool := fun us => match us with
  | [.fsl _ _ cs] => kept (isCB (bytesL cs))
  | _ => false
def bytesCT : RTree := .node rT1 (.leaf bytesCy.m) (.leaf bytesCn.m)
def refCT : RTree := .node rT2 (.leaf refCy.m) (.leaf refCn.m)
def parseCT : RTree := .node rT3 (.leaf parseCy.m) (.leaf parseCn.m)
abbrev T6c : TTab := [(41, ⟨true, bytesCT⟩), (42, ⟨true, refCT⟩), (43, ⟨true, parseCT⟩), (44, madeR.rt), (45, gensR.rt), (40, (RSum.const (.bool true)).rt)]
theorem T6c_ok : TOK Try.prog tys T6c := ⟨RT.sound (show _ ∧ _ from ⟨bytesCy_ok, bytesCn_ok⟩), RT.sound (show _ ∧ _ from ⟨refCy_ok, refCn_ok⟩), RT.sound (show _ ∧ _ from ⟨parseCy_ok, parseCn_ok⟩), RSum.rt_sound madeR_ok, RSum.rt_sound gensR_ok, RSum.rt_sound lives14_ok, trivial⟩
abbrev C6c := mkCxT tys fns T6c []
abbrev S6c := mkST tys T6c []
theorem all6c : SumAll Try.prog C6c := sums_allT T6c_ok trivial
end Go.Proofs.Ytecncappdnhbaaa
end
end

/- SectorCommits: the law. -/
section
set_option autoImplicit false
set_option linter.unusedVariables false
set_option linter.unusedSimpArgs false
set_option maxRecDepth 100000
noncomputable section
namespace Go.Ab
open M
theorem commitB_form (s c g : Nat) : commitB s c g = UInt8.ofNat 76 :: UInt8.ofNat 67 :: UInt8.ofNat s :: UInt8.ofNat c :: (putB 8 g ++ List.replicate 500 0) := rfl
theorem commitB_parts (s c g : Nat) (hs : s < 256) (hc : c < 256) (hg : g < 18446744073709551616) : byteI (commitB s c g) 2 = (s : Int) ∧ byteI (commitB s c g) 3 = (c : Int) ∧ genI (commitB s c g) = (g : Int) ∧ (commitB s c g).drop 12 = List.replicate 500 0 := by
  have hp : (putB 8 g).length = 8 := putB_length 8 g
  refine ⟨?_, ?_, ?_, ?_⟩
  · show ((UInt8.ofNat s).toNat : Int) = s
    rw [UInt8.toNat_ofNat']; omega
  · show ((UInt8.ofNat c).toNat : Int) = c
    rw [UInt8.toNat_ofNat']; omega
  · show ((getN ((putB 8 g ++ List.replicate 500 0).take 8) : Nat) : Int) = g
    rw [List.take_append_of_le_length (by omega), List.take_of_length_le (by omega), getN_putB 8 g (by omega)]
  · show (putB 8 g ++ List.replicate 500 0).drop 8 = _
    rw [List.drop_append_of_le_length (by omega), List.drop_of_length_le (by omega), List.nil_append]
theorem isCB_commitB (s c g : Nat) (hs : s < 3) (hc : c ≤ 16) (hg : g < 18446744073709551616) : isCB (commitB s c g) = true := by
  obtain ⟨h1, h2, _, h4⟩ := commitB_parts s c g (by omega) (by omega) hg
  unfold isCB
  have h1 : (((commitB s c g).getD 2 0).toNat : Int) = s := h1
  have h2 : (((commitB s c g).getD 3 0).toNat : Int) = c := h2
  rw [h1, h2, h4, commitB_length]
  simp only [Bool.and_eq_true, decide_eq_true_eq]
  refine ⟨⟨⟨trivial, rfl⟩, ?_⟩, ?_⟩
  · unfold rightC; simp only [Bool.and_eq_true, decide_eq_true_eq]; omega
  · simp
theorem commitB_of {b : List UInt8} (h : isCB b = true) : commitB (byteI b 2).toNat (byteI b 3).toNat (genI b).toNat = b := by
  unfold isCB at h
  simp only [Bool.and_eq_true, decide_eq_true_eq] at h
  obtain ⟨⟨⟨h1, h2⟩, _⟩, h4⟩ := h
  have h2 := eq_of_beq h2
  have h5 : b.drop 12 = List.replicate 500 0 := by
    apply List.eq_replicate_iff.2
    refine ⟨by simp [h1], fun x hx => ?_⟩
    have := List.all_eq_true.1 h4 x hx
    exact eq_of_beq this
  have ob : ∀ x : UInt8, UInt8.ofNat ((x.toNat : Int).toNat) = x := fun x => by
    show UInt8.ofNat x.toNat = x
    simp
  have hd : ∀ k, k < 512 → b.drop k = b.getD k 0 :: b.drop (k + 1) := by
    intro k hk
    rw [List.drop_eq_getElem_cons (by omega), List.getD_eq_getElem?_getD, List.getElem?_eq_getElem (by omega)]; rfl
  have e8 : putB 8 (genI b).toNat = (b.drop 4).take 8 := by
    have hl : ((b.drop 4).take 8).length = 8 := by rw [List.length_take, List.length_drop]; omega
    have := putB_getN ((b.drop 4).take 8)
    rw [hl] at this
    exact this
  have e4 : b.drop 4 = (b.drop 4).take 8 ++ List.replicate 500 0 := by
    have := (List.take_append_drop 8 (b.drop 4)).symm
    rw [List.drop_drop] at this
    rw [← h5]; exact this
  rw [commitB_form, e8, ← e4]
  show UInt8.ofNat 76 :: UInt8.ofNat 67 :: UInt8.ofNat (((b.getD 2 0).toNat : Int).toNat) :: UInt8.ofNat (((b.getD 3 0).toNat : Int).toNat) :: b.drop 4 = b
  rw [ob, ob, ← hd 3 (by omega), ← hd 2 (by omega)]
  have := (List.take_append_drop 2 b).symm
  rw [h2] at this
  exact this.symm
theorem not_commitB {b : List UInt8} (h : isCB b = false) (hr : rightC (byteI b 2) (byteI b 3) = true) (hg : genI b < 18446744073709551616) : bytesEq (commitB (byteI b 2).toNat (byteI b 3).toNat (genI b).toNat) b = false := by
  rw [bytesEq_eq, beq_eq_false_iff_ne]
  intro e
  have h0 : 0 ≤ byteI b 2 := by unfold byteI; omega
  have h1 : 0 ≤ byteI b 3 := by unfold byteI; omega
  have h2 : 0 ≤ genI b := by unfold genI; omega
  unfold rightC at hr
  simp only [Bool.and_eq_true, decide_eq_true_eq] at hr
  have := isCB_commitB (byteI b 2).toNat (byteI b 3).toNat (genI b).toNat (by omega) (by omega) (by omega)
  rw [e, h] at this
  cases this
theorem genI_lt (b : List UInt8) : genI b < 18446744073709551616 := by
  unfold genI
  have h := getN_lt ((b.drop 4).take 8)
  have hl : ((b.drop 4).take 8).length ≤ 8 := by rw [List.length_take]; omega
  have h2 : 256 ^ ((b.drop 4).take 8).length ≤ 256 ^ 8 := Nat.pow_le_pow_right (by decide) hl
  have h3 : (256 : Nat) ^ 8 = 18446744073709551616 := by decide
  omega
theorem bytesEq_self (b : List UInt8) : bytesEq b b = true := by rw [bytesEq_eq]; exact beq_self_eq_true b
theorem bytesEq_nil {b : List UInt8} (h : b.length = 512) : bytesEq b [] = false ∧ bytesEq [] b = false := by
  rw [bytesEq_eq, bytesEq_eq]
  constructor
  · rw [beq_eq_false_iff_ne]; intro e; rw [e] at h; simp at h
  · rw [beq_eq_false_iff_ne]; intro e; rw [← e] at h; simp at h
theorem at_of (l : List UInt8) (k : Nat) (h : k < l.length) : (listAt (ofBytes l) k).getD AV.undef = .int .u8 ((l.getD k 0).toNat : Int) := by
  rw [listAt_ofBytes l k h, List.getD_eq_getElem?_getD, List.getElem?_eq_getElem h]; rfl
end Go.Ab
namespace Go.Proofs.Ytecncappdnhbaaa
open Go.Ab.M Go.Ab Go
theorem sc_r_y (s : Int) (c : Int) (g : Int) (a : Bool) (l : Nat) (cs : List AV) (h0 : (iltB (Int.ofNat 600) (Int.ofNat l)) = false) (h1 : (kept (rightC s c)) = true) (h2 : (ileB (Int.ofNat 0) s) = true) (h3 : (ileB (Int.ofNat 0) c) = true) (h4 : (ileB (Int.ofNat 0) g) = true) (h5 : (iltB g (Int.ofNat 18446744073709551616)) = true) (h6 : ((bytesOf (rowCut (kept (ofBytes (commitB s.toNat c.toNat g.toNat))) 0 512)).isSome) = true) (h7 : (!bytesEq ((bytesOf (rowCut (kept (ofBytes (commitB s.toNat c.toNat g.toNat))) 0 512)).getD []) (kept (commitB s.toNat c.toNat g.toNat))) = false) (h8 : (!true == !bytesEq (kept (commitB s.toNat c.toNat g.toNat)) []) = false) (h9 : (kept (isCB (bytesL (rowCut (kept (ofBytes (commitB s.toNat c.toNat g.toNat))) 0 512)))) = true) (h10 : (AV.plainL (kept (ofBytes (commitB s.toNat c.toNat g.toNat)))) = true) (h11 : (u8L (rowCut (kept (ofBytes (commitB s.toNat c.toNat g.toNat))) 0 512)) = true) (h12 : ((rowCut (kept (ofBytes (commitB s.toNat c.toNat g.toNat))) 0 512).length.beq 512) = true) (h13 : (!(ieqB (AV.int IntKind.u8 (kept (byteI (bytesL (rowCut (kept (ofBytes (commitB s.toNat c.toNat g.toNat))) 0 512)) 2))).intOf (AV.int IntKind.u8 s).intOf && (ieqB (AV.int IntKind.u8 (kept (byteI (bytesL (rowCut (kept (ofBytes (commitB s.toNat c.toNat g.toNat))) 0 512)) 3))).intOf (AV.int IntKind.u8 c).intOf && (ieqB (AV.int IntKind.u64 (kept (genI (bytesL (rowCut (kept (ofBytes (commitB s.toNat c.toNat g.toNat))) 0 512))))).intOf (AV.int IntKind.u64 g).intOf && true)))) = false) (h14 : (kept (isCB (bytesL cs))) = true) (h15 : (AV.plainL cs) = true) (h16 : (u8L cs) = true) (h17 : (cs.length.beq l) = true) (h18 : ((bytesOf cs).isSome) = true) (h19 : (kept (rightC (AV.int IntKind.u8 (kept (byteI (bytesL cs) 2))).intOf (AV.int IntKind.u8 (kept (byteI (bytesL cs) 3))).intOf)) = true) (h20 : (ileB (Int.ofNat 0) (AV.int IntKind.u8 (kept (byteI (bytesL cs) 2))).intOf) = true) (h21 : (ileB (Int.ofNat 0) (AV.int IntKind.u8 (kept (byteI (bytesL cs) 3))).intOf) = true) (h22 : (ileB (Int.ofNat 0) (AV.int IntKind.u64 (kept (genI (bytesL cs)))).intOf) = true) (h23 : (iltB (AV.int IntKind.u64 (kept (genI (bytesL cs)))).intOf (Int.ofNat 18446744073709551616)) = true) :
    ∃ h', aCall C6c 60 (Tgt.fn 10) [AV.int IntKind.u8 s, AV.int IntKind.u8 c, AV.int IntKind.u64 g, AV.fsl a l cs, AV.bool false] H0 = some (AV.bool (bytesEq (kept (commitB (AV.int IntKind.u8 (kept (byteI (bytesL cs) 2))).intOf.toNat (AV.int IntKind.u8 (kept (byteI (bytesL cs) 3))).intOf.toNat (AV.int IntKind.u64 (kept (genI (bytesL cs)))).intOf.toNat)) ((bytesOf cs).getD [])), h') ∧ [].map h'.get = [] :=
  call_runT (q := (oc 4 (.z :: (oc 10 (.y :: (.y :: (.y :: (.y :: (.y :: (.y :: (.y :: (.y :: (.y :: (.y :: (.y :: (.y :: (oc 1 (.y :: (.z :: (.z :: (.z :: (.z :: (.z :: (.z :: (.z :: (.z :: (.z :: (oc 2 (.z :: (oc 1 (.z :: (oc 2 (.y :: (oc 1 (.y :: (.y :: (.y :: (.y :: (oc 21 (.z :: (oc 1 (.y :: (.y :: (.y :: (.y :: (.y :: (oc 13 (.y :: (.y :: (.y :: (.y :: (.y :: (.y :: (.y :: (.y :: (oc 4 (.y :: (oc 4 (.y :: (oc 4 (.y :: (.y :: (.y :: (.y :: (.y :: (.y :: (.y :: (.y :: (.y :: (.y :: (.y :: []))))))))))))))))))))))))))))))))))))))))))))))))))))))))))))))))))))))) (c := (Cnd.tst _ false :: Cnd.tst _ true :: Cnd.tst _ true :: Cnd.tst _ true :: Cnd.tst _ true :: Cnd.tst _ true :: Cnd.tst _ true :: Cnd.tst _ true :: Cnd.tst _ true :: Cnd.tst _ true :: Cnd.tst _ true :: Cnd.tst _ true :: Cnd.tst _ true :: Cnd.tst _ true :: Cnd.tst _ false :: Cnd.tst _ false :: Cnd.tst _ false :: Cnd.tst _ false :: Cnd.tst _ false :: Cnd.tst _ false :: Cnd.tst _ false :: Cnd.tst _ false :: Cnd.tst _ false :: Cnd.tst _ false :: Cnd.tst _ false :: Cnd.tst _ true :: Cnd.tst _ true :: Cnd.tst _ true :: Cnd.tst _ true :: Cnd.tst _ true :: Cnd.tst _ false :: Cnd.tst _ true :: Cnd.tst _ true :: Cnd.tst _ true :: Cnd.tst _ true :: Cnd.tst _ true :: Cnd.tst _ true :: Cnd.tst _ true :: Cnd.tst _ true :: Cnd.tst _ true :: Cnd.tst _ true :: Cnd.tst _ true :: Cnd.tst _ true :: Cnd.tst _ true :: Cnd.same (AV.int IntKind.u8 (AV.int IntKind.u8 (kept (byteI (bytesL cs) 2))).intOf) (AV.int IntKind.u8 (AV.int IntKind.u8 (kept (byteI (bytesL cs) 2))).intOf) :: Cnd.same (AV.int IntKind.u8 (AV.int IntKind.u8 (kept (byteI (bytesL cs) 3))).intOf) (AV.int IntKind.u8 (AV.int IntKind.u8 (kept (byteI (bytesL cs) 3))).intOf) :: Cnd.same (AV.int IntKind.u64 (AV.int IntKind.u64 (kept (genI (bytesL cs)))).intOf) (AV.int IntKind.u64 (AV.int IntKind.u64 (kept (genI (bytesL cs)))).intOf) :: Cnd.same (AV.fsl a l cs) (AV.fsl a l cs) :: Cnd.same (AV.fsl a l cs) (AV.fsl a l cs) :: Cnd.tst _ true :: Cnd.tst _ true :: Cnd.same (AV.str ((bytesOf cs).getD [])) (AV.str ((bytesOf cs).getD [])) :: Cnd.tst _ true :: Cnd.tst _ true :: Cnd.same (AV.str ((bytesOf cs).getD [])) (AV.str ((bytesOf cs).getD [])) :: Cnd.same (AV.bool (bytesEq (kept (commitB (AV.int IntKind.u8 (kept (byteI (bytesL cs) 2))).intOf.toNat (AV.int IntKind.u8 (kept (byteI (bytesL cs) 3))).intOf.toNat (AV.int IntKind.u64 (kept (genI (bytesL cs)))).intOf.toNat)) ((bytesOf cs).getD []))) (AV.bool (bytesEq (kept (commitB (AV.int IntKind.u8 (kept (byteI (bytesL cs) 2))).intOf.toNat (AV.int IntKind.u8 (kept (byteI (bytesL cs) 3))).intOf.toNat (AV.int IntKind.u64 (kept (genI (bytesL cs)))).intOf.toNat)) ((bytesOf cs).getD []))) :: Cnd.same (AV.bool (bytesEq (kept (commitB (AV.int IntKind.u8 (kept (byteI (bytesL cs) 2))).intOf.toNat (AV.int IntKind.u8 (kept (byteI (bytesL cs) 3))).intOf.toNat (AV.int IntKind.u64 (kept (genI (bytesL cs)))).intOf.toNat)) ((bytesOf cs).getD []))) (AV.bool (bytesEq (kept (commitB (AV.int IntKind.u8 (kept (byteI (bytesL cs) 2))).intOf.toNat (AV.int IntKind.u8 (kept (byteI (bytesL cs) 3))).intOf.toNat (AV.int IntKind.u64 (kept (genI (bytesL cs)))).intOf.toNat)) ((bytesOf cs).getD []))) :: [])) (by kernel_rfl) ⟨h0, h1, h2, h3, h4, h5, h1, h1, h2, h3, h4, h5, h1, h6, h7, h7, h7, h7, h7, h7, h8, h8, h8, h8, h8, h9, h10, h11, h12, h9, h13, h14, h15, h16, h17, h14, h17, h18, h19, h20, h21, h22, h23, h19, rfl, rfl, rfl, rfl, rfl, h17, h18, rfl, h17, h18, rfl, rfl, rfl, trivial⟩
theorem sc_r_n1 (s : Int) (c : Int) (g : Int) (a : Bool) (l : Nat) (cs : List AV) (h0 : (iltB (Int.ofNat 600) (Int.ofNat l)) = false) (h1 : (kept (rightC s c)) = true) (h2 : (ileB (Int.ofNat 0) s) = true) (h3 : (ileB (Int.ofNat 0) c) = true) (h4 : (ileB (Int.ofNat 0) g) = true) (h5 : (iltB g (Int.ofNat 18446744073709551616)) = true) (h6 : ((bytesOf (rowCut (kept (ofBytes (commitB s.toNat c.toNat g.toNat))) 0 512)).isSome) = true) (h7 : (!bytesEq ((bytesOf (rowCut (kept (ofBytes (commitB s.toNat c.toNat g.toNat))) 0 512)).getD []) (kept (commitB s.toNat c.toNat g.toNat))) = false) (h8 : (!true == !bytesEq (kept (commitB s.toNat c.toNat g.toNat)) []) = false) (h9 : (kept (isCB (bytesL (rowCut (kept (ofBytes (commitB s.toNat c.toNat g.toNat))) 0 512)))) = true) (h10 : (AV.plainL (kept (ofBytes (commitB s.toNat c.toNat g.toNat)))) = true) (h11 : (u8L (rowCut (kept (ofBytes (commitB s.toNat c.toNat g.toNat))) 0 512)) = true) (h12 : ((rowCut (kept (ofBytes (commitB s.toNat c.toNat g.toNat))) 0 512).length.beq 512) = true) (h13 : (!(ieqB (AV.int IntKind.u8 (kept (byteI (bytesL (rowCut (kept (ofBytes (commitB s.toNat c.toNat g.toNat))) 0 512)) 2))).intOf (AV.int IntKind.u8 s).intOf && (ieqB (AV.int IntKind.u8 (kept (byteI (bytesL (rowCut (kept (ofBytes (commitB s.toNat c.toNat g.toNat))) 0 512)) 3))).intOf (AV.int IntKind.u8 c).intOf && (ieqB (AV.int IntKind.u64 (kept (genI (bytesL (rowCut (kept (ofBytes (commitB s.toNat c.toNat g.toNat))) 0 512))))).intOf (AV.int IntKind.u64 g).intOf && true)))) = false) (h14 : (kept (isCB (bytesL cs))) = false) (h15 : (AV.plainL cs) = true) (h16 : (u8L cs) = true) (h17 : (cs.length.beq l) = true) (h18 : (kept !isCB (bytesL cs)) = true) (h19 : (!ieqB (Int.ofNat l) (Int.ofNat 512)) = true) :
    ∃ h', aCall C6c 60 (Tgt.fn 10) [AV.int IntKind.u8 s, AV.int IntKind.u8 c, AV.int IntKind.u64 g, AV.fsl a l cs, AV.bool false] H0 = some (AV.bool true, h') ∧ [].map h'.get = [] :=
  call_runT (q := (oc 4 (.z :: (oc 10 (.y :: (.y :: (.y :: (.y :: (.y :: (.y :: (.y :: (.y :: (.y :: (.y :: (.y :: (.y :: (oc 1 (.y :: (.z :: (.z :: (.z :: (.z :: (.z :: (.z :: (.z :: (.z :: (.z :: (oc 2 (.z :: (oc 1 (.z :: (oc 2 (.y :: (oc 1 (.y :: (.y :: (.y :: (.y :: (oc 21 (.z :: (oc 1 (.z :: (.y :: (.y :: (.y :: (.y :: (oc 25 (.y :: (.y :: (.y :: (.y :: (.y :: (.y :: (.y :: (.y :: (.y :: (.y :: (.y :: (.y :: (oc 1 (.y :: (oc 27 (.y :: (oc 1 (.y :: (oc 1 (.y :: (oc 1 (.y :: (.y :: (.y :: (.y :: (.y :: (.y :: (.y :: (.y :: (.y :: (.y :: (.y :: (.y :: (.y :: (oc 1 (.y :: (oc 4 [])))))))))))))))))))))))))))))))))))))))))))))))))))))))))))))))))))))))))))))))))))) (c := (Cnd.tst _ false :: Cnd.tst _ true :: Cnd.tst _ true :: Cnd.tst _ true :: Cnd.tst _ true :: Cnd.tst _ true :: Cnd.tst _ true :: Cnd.tst _ true :: Cnd.tst _ true :: Cnd.tst _ true :: Cnd.tst _ true :: Cnd.tst _ true :: Cnd.tst _ true :: Cnd.tst _ true :: Cnd.tst _ false :: Cnd.tst _ false :: Cnd.tst _ false :: Cnd.tst _ false :: Cnd.tst _ false :: Cnd.tst _ false :: Cnd.tst _ false :: Cnd.tst _ false :: Cnd.tst _ false :: Cnd.tst _ false :: Cnd.tst _ false :: Cnd.tst _ true :: Cnd.tst _ true :: Cnd.tst _ true :: Cnd.tst _ true :: Cnd.tst _ true :: Cnd.tst _ false :: Cnd.tst _ false :: Cnd.tst _ true :: Cnd.tst _ true :: Cnd.tst _ true :: Cnd.tst _ true :: Cnd.tst _ true :: Cnd.tst _ true :: Cnd.tst _ true :: Cnd.tst _ true :: Cnd.tst _ true :: Cnd.tst _ true :: Cnd.tst _ true :: Cnd.tst _ true :: Cnd.tst _ true :: Cnd.tst _ true :: Cnd.tst _ true :: Cnd.tst _ true :: Cnd.tst _ true :: Cnd.same (AV.fsl a l cs) (AV.fsl a l cs) :: Cnd.same (AV.int IntKind.i64 (Int.ofNat l)) (AV.int IntKind.i64 (Int.ofNat l)) :: Cnd.same (AV.bool !ieqB (Int.ofNat l) (Int.ofNat 512)) (AV.bool !ieqB (Int.ofNat l) (Int.ofNat 512)) :: Cnd.same (AV.bool !ieqB (Int.ofNat l) (Int.ofNat 512)) (AV.bool !ieqB (Int.ofNat l) (Int.ofNat 512)) :: Cnd.tst _ true :: Cnd.tst _ true :: Cnd.tst _ true :: Cnd.tst _ true :: Cnd.tst _ true :: Cnd.tst _ true :: Cnd.tst _ true :: Cnd.tst _ true :: Cnd.tst _ true :: Cnd.tst _ true :: Cnd.tst _ true :: Cnd.tst _ true :: Cnd.tst _ true :: [])) (by kernel_rfl) ⟨h0, h1, h2, h3, h4, h5, h1, h1, h2, h3, h4, h5, h1, h6, h7, h7, h7, h7, h7, h7, h8, h8, h8, h8, h8, h9, h10, h11, h12, h9, h13, h14, h15, h16, h17, h18, h19, h19, h19, h19, h19, h19, h19, h19, h19, h19, h19, h19, h19, rfl, rfl, rfl, rfl, h19, h19, h19, h19, h19, h19, h19, h19, h19, h19, h19, h19, h19, trivial⟩
theorem sc_r_n2 (s : Int) (c : Int) (g : Int) (a : Bool) (l : Nat) (cs : List AV) (h0 : (iltB (Int.ofNat 600) (Int.ofNat l)) = false) (h1 : (kept (rightC s c)) = true) (h2 : (ileB (Int.ofNat 0) s) = true) (h3 : (ileB (Int.ofNat 0) c) = true) (h4 : (ileB (Int.ofNat 0) g) = true) (h5 : (iltB g (Int.ofNat 18446744073709551616)) = true) (h6 : ((bytesOf (rowCut (kept (ofBytes (commitB s.toNat c.toNat g.toNat))) 0 512)).isSome) = true) (h7 : (!bytesEq ((bytesOf (rowCut (kept (ofBytes (commitB s.toNat c.toNat g.toNat))) 0 512)).getD []) (kept (commitB s.toNat c.toNat g.toNat))) = false) (h8 : (!true == !bytesEq (kept (commitB s.toNat c.toNat g.toNat)) []) = false) (h9 : (kept (isCB (bytesL (rowCut (kept (ofBytes (commitB s.toNat c.toNat g.toNat))) 0 512)))) = true) (h10 : (AV.plainL (kept (ofBytes (commitB s.toNat c.toNat g.toNat)))) = true) (h11 : (u8L (rowCut (kept (ofBytes (commitB s.toNat c.toNat g.toNat))) 0 512)) = true) (h12 : ((rowCut (kept (ofBytes (commitB s.toNat c.toNat g.toNat))) 0 512).length.beq 512) = true) (h13 : (!(ieqB (AV.int IntKind.u8 (kept (byteI (bytesL (rowCut (kept (ofBytes (commitB s.toNat c.toNat g.toNat))) 0 512)) 2))).intOf (AV.int IntKind.u8 s).intOf && (ieqB (AV.int IntKind.u8 (kept (byteI (bytesL (rowCut (kept (ofBytes (commitB s.toNat c.toNat g.toNat))) 0 512)) 3))).intOf (AV.int IntKind.u8 c).intOf && (ieqB (AV.int IntKind.u64 (kept (genI (bytesL (rowCut (kept (ofBytes (commitB s.toNat c.toNat g.toNat))) 0 512))))).intOf (AV.int IntKind.u64 g).intOf && true)))) = false) (h14 : (kept (isCB (bytesL cs))) = false) (h15 : (AV.plainL cs) = true) (h16 : (u8L cs) = true) (h17 : (cs.length.beq l) = true) (h18 : (kept !isCB (bytesL cs)) = true) (h19 : (!ieqB (Int.ofNat l) (Int.ofNat 512)) = false) (h20 : (Nat.ble 3 l) = true) (h21 : (cs.length.beq (l.mul 1)) = true) (h22 : (Nat.ble 1 (List.drop 2 cs).length) = true) (h23 : (AV.isInt IntKind.u8 ((listAt (List.drop 2 cs) 0).getD AV.undef)) = true) (h24 : (Nat.ble 4 l) = true) (h25 : (Nat.ble 1 (List.drop 3 cs).length) = true) (h26 : (AV.isInt IntKind.u8 ((listAt (List.drop 3 cs) 0).getD AV.undef)) = true) (h27 : ((bytesOf cs).isSome) = true) (h28 : (Nat.ble 12 l) = true) (h29 : (kept (rightC ((listAt (List.drop 2 cs) 0).getD AV.undef).intOf ((listAt (List.drop 3 cs) 0).getD AV.undef).intOf)) = true) (h30 : (ileB (Int.ofNat 0) ((listAt (List.drop 2 cs) 0).getD AV.undef).intOf) = true) (h31 : (ileB (Int.ofNat 0) ((listAt (List.drop 3 cs) 0).getD AV.undef).intOf) = true) (h32 : (ileB (Int.ofNat 0) (kept (genI (bytesL cs)))) = true) (h33 : (iltB (kept (genI (bytesL cs))) (Int.ofNat 18446744073709551616)) = true) :
    ∃ h', aCall C6c 60 (Tgt.fn 10) [AV.int IntKind.u8 s, AV.int IntKind.u8 c, AV.int IntKind.u64 g, AV.fsl a l cs, AV.bool false] H0 = some (AV.bool !bytesEq (kept (commitB ((listAt (List.drop 2 cs) 0).getD AV.undef).intOf.toNat ((listAt (List.drop 3 cs) 0).getD AV.undef).intOf.toNat (kept (genI (bytesL cs))).toNat)) ((bytesOf cs).getD []), h') ∧ [].map h'.get = [] :=
  call_runT (q := (oc 4 (.z :: (oc 10 (.y :: (.y :: (.y :: (.y :: (.y :: (.y :: (.y :: (.y :: (.y :: (.y :: (.y :: (.y :: (oc 1 (.y :: (.z :: (.z :: (.z :: (.z :: (.z :: (.z :: (.z :: (.z :: (.z :: (oc 2 (.z :: (oc 1 (.z :: (oc 2 (.y :: (oc 1 (.y :: (.y :: (.y :: (.y :: (oc 21 (.z :: (oc 1 (.z :: (.y :: (.y :: (.y :: (.y :: (oc 25 (.z :: (.z :: (oc 1 (.y :: (.y :: (.z :: (.y :: (.y :: (.z :: (.z :: (oc 1 (.y :: (.y :: (.z :: (.y :: (.y :: (.z :: (.z :: (.z :: (.y :: (.y :: (.z :: (.y :: (.y :: (.y :: (.y :: (.z :: (.y :: (.y :: (.y :: (.y :: (.y :: (.y :: (.z :: (oc 1 (.z :: (oc 27 (.y :: (oc 1 (.y :: (oc 1 (.y :: (oc 1 (.y :: (.z :: (.y :: (.y :: (.z :: (oc 1 (.y :: (.y :: (.y :: (oc 1 (.y :: (.y :: (.y :: (.z :: (.y :: (.y :: (.y :: (.y :: (.y :: (.y :: (.z :: (.y :: (.y :: (.z :: (oc 1 (.y :: (.y :: (.y :: (oc 1 (.y :: (.y :: (.y :: (.z :: (.y :: (.y :: (.y :: (.y :: (.y :: (.y :: (.z :: (.y :: (.z :: (.y :: (.y :: (.y :: (.z :: (.y :: (.y :: (.y :: (.y :: (.y :: (.y :: (.y :: (.y :: (.y :: (.z :: (.z :: (.z :: (.y :: (oc 1 (.z :: (.y :: (oc 1 (.y :: (.y :: []))))))))))))))))))))))))))))))))))))))))))))))))))))))))))))))))))))))))))))))))))))))))))))))))))))))))))))))))))))))))))))))))))))))))))))))))))))))))))) (c := (Cnd.tst _ false :: Cnd.tst _ true :: Cnd.tst _ true :: Cnd.tst _ true :: Cnd.tst _ true :: Cnd.tst _ true :: Cnd.tst _ true :: Cnd.tst _ true :: Cnd.tst _ true :: Cnd.tst _ true :: Cnd.tst _ true :: Cnd.tst _ true :: Cnd.tst _ true :: Cnd.tst _ true :: Cnd.tst _ false :: Cnd.tst _ false :: Cnd.tst _ false :: Cnd.tst _ false :: Cnd.tst _ false :: Cnd.tst _ false :: Cnd.tst _ false :: Cnd.tst _ false :: Cnd.tst _ false :: Cnd.tst _ false :: Cnd.tst _ false :: Cnd.tst _ true :: Cnd.tst _ true :: Cnd.tst _ true :: Cnd.tst _ true :: Cnd.tst _ true :: Cnd.tst _ false :: Cnd.tst _ false :: Cnd.tst _ true :: Cnd.tst _ true :: Cnd.tst _ true :: Cnd.tst _ true :: Cnd.tst _ false :: Cnd.tst _ false :: Cnd.tst _ true :: Cnd.tst _ true :: Cnd.tst _ false :: Cnd.tst _ true :: Cnd.tst _ true :: Cnd.tst _ false :: Cnd.tst _ false :: Cnd.tst _ true :: Cnd.tst _ true :: Cnd.tst _ false :: Cnd.tst _ true :: Cnd.tst _ true :: Cnd.tst _ false :: Cnd.tst _ false :: Cnd.tst _ false :: Cnd.tst _ true :: Cnd.tst _ true :: Cnd.tst _ false :: Cnd.tst _ true :: Cnd.tst _ true :: Cnd.tst _ true :: Cnd.tst _ true :: Cnd.tst _ false :: Cnd.tst _ true :: Cnd.tst _ true :: Cnd.tst _ true :: Cnd.tst _ true :: Cnd.tst _ true :: Cnd.tst _ true :: Cnd.tst _ false :: Cnd.tst _ false :: Cnd.same (AV.fsl a l cs) (AV.fsl a l cs) :: Cnd.same (AV.int IntKind.i64 (Int.ofNat l)) (AV.int IntKind.i64 (Int.ofNat l)) :: Cnd.same (AV.bool !ieqB (Int.ofNat l) (Int.ofNat 512)) (AV.bool !ieqB (Int.ofNat l) (Int.ofNat 512)) :: Cnd.same (AV.bool !ieqB (Int.ofNat l) (Int.ofNat 512)) (AV.bool !ieqB (Int.ofNat l) (Int.ofNat 512)) :: Cnd.tst _ false :: Cnd.same (AV.fsl a l cs) (AV.fsl a l cs) :: Cnd.same (AV.fsl a l cs) (AV.fsl a l cs) :: Cnd.tst _ false :: Cnd.tst _ true :: Cnd.tst _ true :: Cnd.same (AV.fptr (List.drop 2 cs)) (AV.fptr (List.drop 2 cs)) :: Cnd.tst _ true :: Cnd.tst _ true :: Cnd.same (AV.fptr (List.drop 2 cs)) (AV.fptr (List.drop 2 cs)) :: Cnd.tst _ false :: Cnd.tst _ true :: Cnd.tst _ true :: Cnd.same (AV.int IntKind.u8 ((listAt (List.drop 2 cs) 0).getD AV.undef).intOf) (AV.int IntKind.u8 ((listAt (List.drop 2 cs) 0).getD AV.undef).intOf) :: Cnd.tst _ true :: Cnd.tst _ true :: Cnd.same (AV.int IntKind.u8 ((listAt (List.drop 2 cs) 0).getD AV.undef).intOf) (AV.int IntKind.u8 ((listAt (List.drop 2 cs) 0).getD AV.undef).intOf) :: Cnd.tst _ false :: Cnd.same (AV.fsl a l cs) (AV.fsl a l cs) :: Cnd.same (AV.fsl a l cs) (AV.fsl a l cs) :: Cnd.tst _ false :: Cnd.tst _ true :: Cnd.tst _ true :: Cnd.same (AV.fptr (List.drop 3 cs)) (AV.fptr (List.drop 3 cs)) :: Cnd.tst _ true :: Cnd.tst _ true :: Cnd.same (AV.fptr (List.drop 3 cs)) (AV.fptr (List.drop 3 cs)) :: Cnd.tst _ false :: Cnd.tst _ true :: Cnd.tst _ true :: Cnd.same (AV.int IntKind.u8 ((listAt (List.drop 3 cs) 0).getD AV.undef).intOf) (AV.int IntKind.u8 ((listAt (List.drop 3 cs) 0).getD AV.undef).intOf) :: Cnd.tst _ true :: Cnd.tst _ true :: Cnd.same (AV.int IntKind.u8 ((listAt (List.drop 3 cs) 0).getD AV.undef).intOf) (AV.int IntKind.u8 ((listAt (List.drop 3 cs) 0).getD AV.undef).intOf) :: Cnd.tst _ false :: Cnd.same (AV.fsl a l cs) (AV.fsl a l cs) :: Cnd.tst _ false :: Cnd.same (AV.fsl a l cs) (AV.fsl a l cs) :: Cnd.same (AV.fsl a l cs) (AV.fsl a l cs) :: Cnd.same (AV.fsl a l cs) (AV.fsl a l cs) :: Cnd.tst _ false :: Cnd.tst _ true :: Cnd.tst _ true :: Cnd.same (AV.str ((bytesOf cs).getD [])) (AV.str ((bytesOf cs).getD [])) :: Cnd.tst _ true :: Cnd.tst _ true :: Cnd.same (AV.str ((bytesOf cs).getD [])) (AV.str ((bytesOf cs).getD [])) :: Cnd.tst _ true :: Cnd.tst _ true :: Cnd.same (AV.str ((bytesOf cs).getD [])) (AV.str ((bytesOf cs).getD [])) :: Cnd.tst _ false :: Cnd.tst _ false :: Cnd.tst _ false :: Cnd.same (AV.bool !bytesEq (kept (commitB ((listAt (List.drop 2 cs) 0).getD AV.undef).intOf.toNat ((listAt (List.drop 3 cs) 0).getD AV.undef).intOf.toNat (kept (genI (bytesL cs))).toNat)) ((bytesOf cs).getD [])) (AV.bool !bytesEq (kept (commitB ((listAt (List.drop 2 cs) 0).getD AV.undef).intOf.toNat ((listAt (List.drop 3 cs) 0).getD AV.undef).intOf.toNat (kept (genI (bytesL cs))).toNat)) ((bytesOf cs).getD [])) :: Cnd.tst _ false :: Cnd.same (AV.bool !bytesEq (kept (commitB ((listAt (List.drop 2 cs) 0).getD AV.undef).intOf.toNat ((listAt (List.drop 3 cs) 0).getD AV.undef).intOf.toNat (kept (genI (bytesL cs))).toNat)) ((bytesOf cs).getD [])) (AV.bool !bytesEq (kept (commitB ((listAt (List.drop 2 cs) 0).getD AV.undef).intOf.toNat ((listAt (List.drop 3 cs) 0).getD AV.undef).intOf.toNat (kept (genI (bytesL cs))).toNat)) ((bytesOf cs).getD [])) :: Cnd.same (AV.bool !bytesEq (kept (commitB ((listAt (List.drop 2 cs) 0).getD AV.undef).intOf.toNat ((listAt (List.drop 3 cs) 0).getD AV.undef).intOf.toNat (kept (genI (bytesL cs))).toNat)) ((bytesOf cs).getD [])) (AV.bool !bytesEq (kept (commitB ((listAt (List.drop 2 cs) 0).getD AV.undef).intOf.toNat ((listAt (List.drop 3 cs) 0).getD AV.undef).intOf.toNat (kept (genI (bytesL cs))).toNat)) ((bytesOf cs).getD [])) :: Cnd.same (AV.bool !bytesEq (kept (commitB ((listAt (List.drop 2 cs) 0).getD AV.undef).intOf.toNat ((listAt (List.drop 3 cs) 0).getD AV.undef).intOf.toNat (kept (genI (bytesL cs))).toNat)) ((bytesOf cs).getD [])) (AV.bool !bytesEq (kept (commitB ((listAt (List.drop 2 cs) 0).getD AV.undef).intOf.toNat ((listAt (List.drop 3 cs) 0).getD AV.undef).intOf.toNat (kept (genI (bytesL cs))).toNat)) ((bytesOf cs).getD [])) :: [])) (by kernel_rfl) ⟨h0, h1, h2, h3, h4, h5, h1, h1, h2, h3, h4, h5, h1, h6, h7, h7, h7, h7, h7, h7, h8, h8, h8, h8, h8, h9, h10, h11, h12, h9, h13, h14, h15, h16, h17, h18, h19, h19, h20, h21, h19, h22, h23, h19, h19, h24, h21, h19, h25, h26, h19, h19, h19, h17, h27, h19, h15, h16, h17, h28, h19, h29, h30, h31, h32, h33, h29, h19, h19, rfl, rfl, rfl, rfl, h19, rfl, rfl, h19, h20, h21, rfl, h20, h21, rfl, h19, h22, h23, rfl, h22, h23, rfl, h19, rfl, rfl, h19, h24, h21, rfl, h24, h21, rfl, h19, h25, h26, rfl, h25, h26, rfl, h19, rfl, h19, rfl, rfl, rfl, h19, h17, h27, rfl, h17, h27, rfl, h17, h27, rfl, h19, h19, h19, rfl, h19, rfl, rfl, rfl, trivial⟩
theorem sc_r_n3 (s : Int) (c : Int) (g : Int) (a : Bool) (l : Nat) (cs : List AV) (h0 : (iltB (Int.ofNat 600) (Int.ofNat l)) = false) (h1 : (kept (rightC s c)) = true) (h2 : (ileB (Int.ofNat 0) s) = true) (h3 : (ileB (Int.ofNat 0) c) = true) (h4 : (ileB (Int.ofNat 0) g) = true) (h5 : (iltB g (Int.ofNat 18446744073709551616)) = true) (h6 : ((bytesOf (rowCut (kept (ofBytes (commitB s.toNat c.toNat g.toNat))) 0 512)).isSome) = true) (h7 : (!bytesEq ((bytesOf (rowCut (kept (ofBytes (commitB s.toNat c.toNat g.toNat))) 0 512)).getD []) (kept (commitB s.toNat c.toNat g.toNat))) = false) (h8 : (!true == !bytesEq (kept (commitB s.toNat c.toNat g.toNat)) []) = false) (h9 : (kept (isCB (bytesL (rowCut (kept (ofBytes (commitB s.toNat c.toNat g.toNat))) 0 512)))) = true) (h10 : (AV.plainL (kept (ofBytes (commitB s.toNat c.toNat g.toNat)))) = true) (h11 : (u8L (rowCut (kept (ofBytes (commitB s.toNat c.toNat g.toNat))) 0 512)) = true) (h12 : ((rowCut (kept (ofBytes (commitB s.toNat c.toNat g.toNat))) 0 512).length.beq 512) = true) (h13 : (!(ieqB (AV.int IntKind.u8 (kept (byteI (bytesL (rowCut (kept (ofBytes (commitB s.toNat c.toNat g.toNat))) 0 512)) 2))).intOf (AV.int IntKind.u8 s).intOf && (ieqB (AV.int IntKind.u8 (kept (byteI (bytesL (rowCut (kept (ofBytes (commitB s.toNat c.toNat g.toNat))) 0 512)) 3))).intOf (AV.int IntKind.u8 c).intOf && (ieqB (AV.int IntKind.u64 (kept (genI (bytesL (rowCut (kept (ofBytes (commitB s.toNat c.toNat g.toNat))) 0 512))))).intOf (AV.int IntKind.u64 g).intOf && true)))) = false) (h14 : (kept (isCB (bytesL cs))) = false) (h15 : (AV.plainL cs) = true) (h16 : (u8L cs) = true) (h17 : (cs.length.beq l) = true) (h18 : (kept !isCB (bytesL cs)) = true) (h19 : (!ieqB (Int.ofNat l) (Int.ofNat 512)) = false) (h20 : (Nat.ble 3 l) = true) (h21 : (cs.length.beq (l.mul 1)) = true) (h22 : (Nat.ble 1 (List.drop 2 cs).length) = true) (h23 : (AV.isInt IntKind.u8 ((listAt (List.drop 2 cs) 0).getD AV.undef)) = true) (h24 : (Nat.ble 4 l) = true) (h25 : (Nat.ble 1 (List.drop 3 cs).length) = true) (h26 : (AV.isInt IntKind.u8 ((listAt (List.drop 3 cs) 0).getD AV.undef)) = true) (h27 : ((bytesOf cs).isSome) = true) (h28 : (Nat.ble 12 l) = true) (h29 : (kept (rightC ((listAt (List.drop 2 cs) 0).getD AV.undef).intOf ((listAt (List.drop 3 cs) 0).getD AV.undef).intOf)) = false) (h30 : (kept !rightC ((listAt (List.drop 2 cs) 0).getD AV.undef).intOf ((listAt (List.drop 3 cs) 0).getD AV.undef).intOf) = true) :
    ∃ h', aCall C6c 60 (Tgt.fn 10) [AV.int IntKind.u8 s, AV.int IntKind.u8 c, AV.int IntKind.u64 g, AV.fsl a l cs, AV.bool false] H0 = some (AV.bool !bytesEq [] ((bytesOf cs).getD []), h') ∧ [].map h'.get = [] :=
  call_runT (q := (oc 4 (.z :: (oc 10 (.y :: (.y :: (.y :: (.y :: (.y :: (.y :: (.y :: (.y :: (.y :: (.y :: (.y :: (.y :: (oc 1 (.y :: (.z :: (.z :: (.z :: (.z :: (.z :: (.z :: (.z :: (.z :: (.z :: (oc 2 (.z :: (oc 1 (.z :: (oc 2 (.y :: (oc 1 (.y :: (.y :: (.y :: (.y :: (oc 21 (.z :: (oc 1 (.z :: (.y :: (.y :: (.y :: (.y :: (oc 25 (.z :: (.z :: (oc 1 (.y :: (.y :: (.z :: (.y :: (.y :: (.z :: (.z :: (oc 1 (.y :: (.y :: (.z :: (.y :: (.y :: (.z :: (.z :: (.z :: (.y :: (.y :: (.z :: (.y :: (.y :: (.y :: (.y :: (.z :: (.z :: (.y :: (.z :: (oc 1 (.z :: (oc 27 (.y :: (oc 1 (.y :: (oc 1 (.y :: (oc 1 (.y :: (.z :: (.y :: (.y :: (.z :: (oc 1 (.y :: (.y :: (.y :: (oc 1 (.y :: (.y :: (.y :: (.z :: (.y :: (.y :: (.y :: (.y :: (.y :: (.y :: (.z :: (.y :: (.y :: (.z :: (oc 1 (.y :: (.y :: (.y :: (oc 1 (.y :: (.y :: (.y :: (.z :: (.y :: (.y :: (.y :: (.y :: (.y :: (.y :: (.z :: (.y :: (.z :: (.y :: (.y :: (.y :: (.z :: (.y :: (.y :: (.y :: (.y :: (.y :: (.y :: (.y :: (.y :: (.y :: (.z :: (.z :: (.z :: (.y :: (oc 1 (.z :: (.y :: (oc 1 (.y :: (.y :: []))))))))))))))))))))))))))))))))))))))))))))))))))))))))))))))))))))))))))))))))))))))))))))))))))))))))))))))))))))))))))))))))))))))))))))))))))))))) (c := (Cnd.tst _ false :: Cnd.tst _ true :: Cnd.tst _ true :: Cnd.tst _ true :: Cnd.tst _ true :: Cnd.tst _ true :: Cnd.tst _ true :: Cnd.tst _ true :: Cnd.tst _ true :: Cnd.tst _ true :: Cnd.tst _ true :: Cnd.tst _ true :: Cnd.tst _ true :: Cnd.tst _ true :: Cnd.tst _ false :: Cnd.tst _ false :: Cnd.tst _ false :: Cnd.tst _ false :: Cnd.tst _ false :: Cnd.tst _ false :: Cnd.tst _ false :: Cnd.tst _ false :: Cnd.tst _ false :: Cnd.tst _ false :: Cnd.tst _ false :: Cnd.tst _ true :: Cnd.tst _ true :: Cnd.tst _ true :: Cnd.tst _ true :: Cnd.tst _ true :: Cnd.tst _ false :: Cnd.tst _ false :: Cnd.tst _ true :: Cnd.tst _ true :: Cnd.tst _ true :: Cnd.tst _ true :: Cnd.tst _ false :: Cnd.tst _ false :: Cnd.tst _ true :: Cnd.tst _ true :: Cnd.tst _ false :: Cnd.tst _ true :: Cnd.tst _ true :: Cnd.tst _ false :: Cnd.tst _ false :: Cnd.tst _ true :: Cnd.tst _ true :: Cnd.tst _ false :: Cnd.tst _ true :: Cnd.tst _ true :: Cnd.tst _ false :: Cnd.tst _ false :: Cnd.tst _ false :: Cnd.tst _ true :: Cnd.tst _ true :: Cnd.tst _ false :: Cnd.tst _ true :: Cnd.tst _ true :: Cnd.tst _ true :: Cnd.tst _ true :: Cnd.tst _ false :: Cnd.tst _ false :: Cnd.tst _ true :: Cnd.tst _ false :: Cnd.tst _ false :: Cnd.same (AV.fsl a l cs) (AV.fsl a l cs) :: Cnd.same (AV.int IntKind.i64 (Int.ofNat l)) (AV.int IntKind.i64 (Int.ofNat l)) :: Cnd.same (AV.bool !ieqB (Int.ofNat l) (Int.ofNat 512)) (AV.bool !ieqB (Int.ofNat l) (Int.ofNat 512)) :: Cnd.same (AV.bool !ieqB (Int.ofNat l) (Int.ofNat 512)) (AV.bool !ieqB (Int.ofNat l) (Int.ofNat 512)) :: Cnd.tst _ false :: Cnd.same (AV.fsl a l cs) (AV.fsl a l cs) :: Cnd.same (AV.fsl a l cs) (AV.fsl a l cs) :: Cnd.tst _ false :: Cnd.tst _ true :: Cnd.tst _ true :: Cnd.same (AV.fptr (List.drop 2 cs)) (AV.fptr (List.drop 2 cs)) :: Cnd.tst _ true :: Cnd.tst _ true :: Cnd.same (AV.fptr (List.drop 2 cs)) (AV.fptr (List.drop 2 cs)) :: Cnd.tst _ false :: Cnd.tst _ true :: Cnd.tst _ true :: Cnd.same (AV.int IntKind.u8 ((listAt (List.drop 2 cs) 0).getD AV.undef).intOf) (AV.int IntKind.u8 ((listAt (List.drop 2 cs) 0).getD AV.undef).intOf) :: Cnd.tst _ true :: Cnd.tst _ true :: Cnd.same (AV.int IntKind.u8 ((listAt (List.drop 2 cs) 0).getD AV.undef).intOf) (AV.int IntKind.u8 ((listAt (List.drop 2 cs) 0).getD AV.undef).intOf) :: Cnd.tst _ false :: Cnd.same (AV.fsl a l cs) (AV.fsl a l cs) :: Cnd.same (AV.fsl a l cs) (AV.fsl a l cs) :: Cnd.tst _ false :: Cnd.tst _ true :: Cnd.tst _ true :: Cnd.same (AV.fptr (List.drop 3 cs)) (AV.fptr (List.drop 3 cs)) :: Cnd.tst _ true :: Cnd.tst _ true :: Cnd.same (AV.fptr (List.drop 3 cs)) (AV.fptr (List.drop 3 cs)) :: Cnd.tst _ false :: Cnd.tst _ true :: Cnd.tst _ true :: Cnd.same (AV.int IntKind.u8 ((listAt (List.drop 3 cs) 0).getD AV.undef).intOf) (AV.int IntKind.u8 ((listAt (List.drop 3 cs) 0).getD AV.undef).intOf) :: Cnd.tst _ true :: Cnd.tst _ true :: Cnd.same (AV.int IntKind.u8 ((listAt (List.drop 3 cs) 0).getD AV.undef).intOf) (AV.int IntKind.u8 ((listAt (List.drop 3 cs) 0).getD AV.undef).intOf) :: Cnd.tst _ false :: Cnd.same (AV.fsl a l cs) (AV.fsl a l cs) :: Cnd.tst _ false :: Cnd.same (AV.fsl a l cs) (AV.fsl a l cs) :: Cnd.same (AV.fsl a l cs) (AV.fsl a l cs) :: Cnd.same (AV.fsl a l cs) (AV.fsl a l cs) :: Cnd.tst _ false :: Cnd.tst _ true :: Cnd.tst _ true :: Cnd.same (AV.str ((bytesOf cs).getD [])) (AV.str ((bytesOf cs).getD [])) :: Cnd.tst _ true :: Cnd.tst _ true :: Cnd.same (AV.str ((bytesOf cs).getD [])) (AV.str ((bytesOf cs).getD [])) :: Cnd.tst _ true :: Cnd.tst _ true :: Cnd.same (AV.str ((bytesOf cs).getD [])) (AV.str ((bytesOf cs).getD [])) :: Cnd.tst _ false :: Cnd.tst _ false :: Cnd.tst _ false :: Cnd.same (AV.bool !bytesEq [] ((bytesOf cs).getD [])) (AV.bool !bytesEq [] ((bytesOf cs).getD [])) :: Cnd.tst _ false :: Cnd.same (AV.bool !bytesEq [] ((bytesOf cs).getD [])) (AV.bool !bytesEq [] ((bytesOf cs).getD [])) :: Cnd.same (AV.bool !bytesEq [] ((bytesOf cs).getD [])) (AV.bool !bytesEq [] ((bytesOf cs).getD [])) :: Cnd.same (AV.bool !bytesEq [] ((bytesOf cs).getD [])) (AV.bool !bytesEq [] ((bytesOf cs).getD [])) :: [])) (by kernel_rfl) ⟨h0, h1, h2, h3, h4, h5, h1, h1, h2, h3, h4, h5, h1, h6, h7, h7, h7, h7, h7, h7, h8, h8, h8, h8, h8, h9, h10, h11, h12, h9, h13, h14, h15, h16, h17, h18, h19, h19, h20, h21, h19, h22, h23, h19, h19, h24, h21, h19, h25, h26, h19, h19, h19, h17, h27, h19, h15, h16, h17, h28, h19, h29, h30, h19, h19, rfl, rfl, rfl, rfl, h19, rfl, rfl, h19, h20, h21, rfl, h20, h21, rfl, h19, h22, h23, rfl, h22, h23, rfl, h19, rfl, rfl, h19, h24, h21, rfl, h24, h21, rfl, h19, h25, h26, rfl, h25, h26, rfl, h19, rfl, h19, rfl, rfl, rfl, h19, h17, h27, rfl, h17, h27, rfl, h17, h27, rfl, h19, h19, h19, rfl, h19, rfl, rfl, rfl, trivial⟩
theorem sc_r_wy (s : Int) (c : Int) (g : Int) (a : Bool) (l : Nat) (cs : List AV) (h0 : (iltB (Int.ofNat 600) (Int.ofNat l)) = false) (h1 : (kept (rightC s c)) = true) (h2 : (ileB (Int.ofNat 0) s) = true) (h3 : (ileB (Int.ofNat 0) c) = true) (h4 : (ileB (Int.ofNat 0) g) = true) (h5 : (iltB g (Int.ofNat 18446744073709551616)) = true) (h6 : ((bytesOf (rowCut (kept (ofBytes (commitB s.toNat c.toNat g.toNat))) 0 512)).isSome) = true) (h7 : (!bytesEq ((bytesOf (rowCut (kept (ofBytes (commitB s.toNat c.toNat g.toNat))) 0 512)).getD []) (kept (commitB s.toNat c.toNat g.toNat))) = false) (h8 : (!true == !bytesEq (kept (commitB s.toNat c.toNat g.toNat)) []) = false) (h9 : (kept (isCB (bytesL (rowCut (kept (ofBytes (commitB s.toNat c.toNat g.toNat))) 0 512)))) = true) (h10 : (AV.plainL (kept (ofBytes (commitB s.toNat c.toNat g.toNat)))) = true) (h11 : (u8L (rowCut (kept (ofBytes (commitB s.toNat c.toNat g.toNat))) 0 512)) = true) (h12 : ((rowCut (kept (ofBytes (commitB s.toNat c.toNat g.toNat))) 0 512).length.beq 512) = true) (h13 : (!(ieqB (AV.int IntKind.u8 (kept (byteI (bytesL (rowCut (kept (ofBytes (commitB s.toNat c.toNat g.toNat))) 0 512)) 2))).intOf (AV.int IntKind.u8 s).intOf && (ieqB (AV.int IntKind.u8 (kept (byteI (bytesL (rowCut (kept (ofBytes (commitB s.toNat c.toNat g.toNat))) 0 512)) 3))).intOf (AV.int IntKind.u8 c).intOf && (ieqB (AV.int IntKind.u64 (kept (genI (bytesL (rowCut (kept (ofBytes (commitB s.toNat c.toNat g.toNat))) 0 512))))).intOf (AV.int IntKind.u64 g).intOf && true)))) = false) (h14 : (AV.plainL cs) = true) (h15 : (u8L cs) = true) (h16 : (cs.length.beq l) = true) (h17 : (kept (isCB (bytesL (rowCut (kept (ofBytes (padB 512 (List.take 512 (bytesL cs))))) 0 512)))) = true) (h18 : (AV.plainL (kept (ofBytes (padB 512 (List.take 512 (bytesL cs)))))) = true) (h19 : (u8L (rowCut (kept (ofBytes (padB 512 (List.take 512 (bytesL cs))))) 0 512)) = true) (h20 : ((rowCut (kept (ofBytes (padB 512 (List.take 512 (bytesL cs))))) 0 512).length.beq 512) = true) (h21 : ((bytesOf (rowCut (kept (ofBytes (padB 512 (List.take 512 (bytesL cs))))) 0 512)).isSome) = true) (h22 : (kept (rightC (AV.int IntKind.u8 (kept (byteI (bytesL (rowCut (kept (ofBytes (padB 512 (List.take 512 (bytesL cs))))) 0 512)) 2))).intOf (AV.int IntKind.u8 (kept (byteI (bytesL (rowCut (kept (ofBytes (padB 512 (List.take 512 (bytesL cs))))) 0 512)) 3))).intOf)) = true) (h23 : (ileB (Int.ofNat 0) (AV.int IntKind.u8 (kept (byteI (bytesL (rowCut (kept (ofBytes (padB 512 (List.take 512 (bytesL cs))))) 0 512)) 2))).intOf) = true) (h24 : (ileB (Int.ofNat 0) (AV.int IntKind.u8 (kept (byteI (bytesL (rowCut (kept (ofBytes (padB 512 (List.take 512 (bytesL cs))))) 0 512)) 3))).intOf) = true) (h25 : (ileB (Int.ofNat 0) (AV.int IntKind.u64 (kept (genI (bytesL (rowCut (kept (ofBytes (padB 512 (List.take 512 (bytesL cs))))) 0 512))))).intOf) = true) (h26 : (iltB (AV.int IntKind.u64 (kept (genI (bytesL (rowCut (kept (ofBytes (padB 512 (List.take 512 (bytesL cs))))) 0 512))))).intOf (Int.ofNat 18446744073709551616)) = true) :
    ∃ h', aCall C6c 60 (Tgt.fn 10) [AV.int IntKind.u8 s, AV.int IntKind.u8 c, AV.int IntKind.u64 g, AV.fsl a l cs, AV.bool true] H0 = some (AV.bool (bytesEq (kept (commitB (AV.int IntKind.u8 (kept (byteI (bytesL (rowCut (kept (ofBytes (padB 512 (List.take 512 (bytesL cs))))) 0 512)) 2))).intOf.toNat (AV.int IntKind.u8 (kept (byteI (bytesL (rowCut (kept (ofBytes (padB 512 (List.take 512 (bytesL cs))))) 0 512)) 3))).intOf.toNat (AV.int IntKind.u64 (kept (genI (bytesL (rowCut (kept (ofBytes (padB 512 (List.take 512 (bytesL cs))))) 0 512))))).intOf.toNat)) ((bytesOf (rowCut (kept (ofBytes (padB 512 (List.take 512 (bytesL cs))))) 0 512)).getD [])), h') ∧ [].map h'.get = [] :=
  call_runT (q := (oc 4 (.z :: (oc 10 (.y :: (.y :: (.y :: (.y :: (.y :: (.y :: (.y :: (.y :: (.y :: (.y :: (.y :: (.y :: (oc 1 (.y :: (.z :: (.z :: (.z :: (.z :: (.z :: (.z :: (.z :: (.z :: (.z :: (oc 2 (.z :: (oc 1 (.z :: (oc 2 (.y :: (oc 1 (.y :: (.y :: (.y :: (.y :: (oc 21 (.z :: (oc 1 (.y :: (.y :: (.y :: (.y :: (oc 1 (.y :: (.y :: (.y :: (.y :: (oc 14 (.y :: (.y :: (.y :: (.y :: (.y :: (.y :: (.y :: (oc 4 (.y :: (oc 4 (.y :: (oc 4 (.y :: (oc 3 (.y :: (.y :: (oc 1 (.y :: (.y :: (.y :: (.y :: [])))))))))))))))))))))))))))))))))))))))))))))))))))))))))))))))))))))))) (c := (Cnd.tst _ false :: Cnd.tst _ true :: Cnd.tst _ true :: Cnd.tst _ true :: Cnd.tst _ true :: Cnd.tst _ true :: Cnd.tst _ true :: Cnd.tst _ true :: Cnd.tst _ true :: Cnd.tst _ true :: Cnd.tst _ true :: Cnd.tst _ true :: Cnd.tst _ true :: Cnd.tst _ true :: Cnd.tst _ false :: Cnd.tst _ false :: Cnd.tst _ false :: Cnd.tst _ false :: Cnd.tst _ false :: Cnd.tst _ false :: Cnd.tst _ false :: Cnd.tst _ false :: Cnd.tst _ false :: Cnd.tst _ false :: Cnd.tst _ false :: Cnd.tst _ true :: Cnd.tst _ true :: Cnd.tst _ true :: Cnd.tst _ true :: Cnd.tst _ true :: Cnd.tst _ false :: Cnd.tst _ true :: Cnd.tst _ true :: Cnd.tst _ true :: Cnd.tst _ true :: Cnd.tst _ true :: Cnd.tst _ true :: Cnd.tst _ true :: Cnd.tst _ true :: Cnd.tst _ true :: Cnd.tst _ true :: Cnd.tst _ true :: Cnd.tst _ true :: Cnd.tst _ true :: Cnd.tst _ true :: Cnd.tst _ true :: Cnd.same (AV.int IntKind.u8 (AV.int IntKind.u8 (kept (byteI (bytesL (rowCut (kept (ofBytes (padB 512 (List.take 512 (bytesL cs))))) 0 512)) 2))).intOf) (AV.int IntKind.u8 (AV.int IntKind.u8 (kept (byteI (bytesL (rowCut (kept (ofBytes (padB 512 (List.take 512 (bytesL cs))))) 0 512)) 2))).intOf) :: Cnd.same (AV.int IntKind.u8 (AV.int IntKind.u8 (kept (byteI (bytesL (rowCut (kept (ofBytes (padB 512 (List.take 512 (bytesL cs))))) 0 512)) 3))).intOf) (AV.int IntKind.u8 (AV.int IntKind.u8 (kept (byteI (bytesL (rowCut (kept (ofBytes (padB 512 (List.take 512 (bytesL cs))))) 0 512)) 3))).intOf) :: Cnd.same (AV.int IntKind.u64 (AV.int IntKind.u64 (kept (genI (bytesL (rowCut (kept (ofBytes (padB 512 (List.take 512 (bytesL cs))))) 0 512))))).intOf) (AV.int IntKind.u64 (AV.int IntKind.u64 (kept (genI (bytesL (rowCut (kept (ofBytes (padB 512 (List.take 512 (bytesL cs))))) 0 512))))).intOf) :: Cnd.tst _ true :: Cnd.same (AV.str ((bytesOf (rowCut (kept (ofBytes (padB 512 (List.take 512 (bytesL cs))))) 0 512)).getD [])) (AV.str ((bytesOf (rowCut (kept (ofBytes (padB 512 (List.take 512 (bytesL cs))))) 0 512)).getD [])) :: Cnd.tst _ true :: Cnd.same (AV.str ((bytesOf (rowCut (kept (ofBytes (padB 512 (List.take 512 (bytesL cs))))) 0 512)).getD [])) (AV.str ((bytesOf (rowCut (kept (ofBytes (padB 512 (List.take 512 (bytesL cs))))) 0 512)).getD [])) :: Cnd.same (AV.bool (bytesEq (kept (commitB (AV.int IntKind.u8 (kept (byteI (bytesL (rowCut (kept (ofBytes (padB 512 (List.take 512 (bytesL cs))))) 0 512)) 2))).intOf.toNat (AV.int IntKind.u8 (kept (byteI (bytesL (rowCut (kept (ofBytes (padB 512 (List.take 512 (bytesL cs))))) 0 512)) 3))).intOf.toNat (AV.int IntKind.u64 (kept (genI (bytesL (rowCut (kept (ofBytes (padB 512 (List.take 512 (bytesL cs))))) 0 512))))).intOf.toNat)) ((bytesOf (rowCut (kept (ofBytes (padB 512 (List.take 512 (bytesL cs))))) 0 512)).getD []))) (AV.bool (bytesEq (kept (commitB (AV.int IntKind.u8 (kept (byteI (bytesL (rowCut (kept (ofBytes (padB 512 (List.take 512 (bytesL cs))))) 0 512)) 2))).intOf.toNat (AV.int IntKind.u8 (kept (byteI (bytesL (rowCut (kept (ofBytes (padB 512 (List.take 512 (bytesL cs))))) 0 512)) 3))).intOf.toNat (AV.int IntKind.u64 (kept (genI (bytesL (rowCut (kept (ofBytes (padB 512 (List.take 512 (bytesL cs))))) 0 512))))).intOf.toNat)) ((bytesOf (rowCut (kept (ofBytes (padB 512 (List.take 512 (bytesL cs))))) 0 512)).getD []))) :: Cnd.same (AV.bool (bytesEq (kept (commitB (AV.int IntKind.u8 (kept (byteI (bytesL (rowCut (kept (ofBytes (padB 512 (List.take 512 (bytesL cs))))) 0 512)) 2))).intOf.toNat (AV.int IntKind.u8 (kept (byteI (bytesL (rowCut (kept (ofBytes (padB 512 (List.take 512 (bytesL cs))))) 0 512)) 3))).intOf.toNat (AV.int IntKind.u64 (kept (genI (bytesL (rowCut (kept (ofBytes (padB 512 (List.take 512 (bytesL cs))))) 0 512))))).intOf.toNat)) ((bytesOf (rowCut (kept (ofBytes (padB 512 (List.take 512 (bytesL cs))))) 0 512)).getD []))) (AV.bool (bytesEq (kept (commitB (AV.int IntKind.u8 (kept (byteI (bytesL (rowCut (kept (ofBytes (padB 512 (List.take 512 (bytesL cs))))) 0 512)) 2))).intOf.toNat (AV.int IntKind.u8 (kept (byteI (bytesL (rowCut (kept (ofBytes (padB 512 (List.take 512 (bytesL cs))))) 0 512)) 3))).intOf.toNat (AV.int IntKind.u64 (kept (genI (bytesL (rowCut (kept (ofBytes (padB 512 (List.take 512 (bytesL cs))))) 0 512))))).intOf.toNat)) ((bytesOf (rowCut (kept (ofBytes (padB 512 (List.take 512 (bytesL cs))))) 0 512)).getD []))) :: [])) (by kernel_rfl) ⟨h0, h1, h2, h3, h4, h5, h1, h1, h2, h3, h4, h5, h1, h6, h7, h7, h7, h7, h7, h7, h8, h8, h8, h8, h8, h9, h10, h11, h12, h9, h13, h14, h15, h16, h17, h18, h19, h20, h17, h21, h22, h23, h24, h25, h26, h22, rfl, rfl, rfl, h21, rfl, h21, rfl, rfl, rfl, trivial⟩
theorem sc_r_wn2 (s : Int) (c : Int) (g : Int) (a : Bool) (l : Nat) (cs : List AV) (h0 : (iltB (Int.ofNat 600) (Int.ofNat l)) = false) (h1 : (kept (rightC s c)) = true) (h2 : (ileB (Int.ofNat 0) s) = true) (h3 : (ileB (Int.ofNat 0) c) = true) (h4 : (ileB (Int.ofNat 0) g) = true) (h5 : (iltB g (Int.ofNat 18446744073709551616)) = true) (h6 : ((bytesOf (rowCut (kept (ofBytes (commitB s.toNat c.toNat g.toNat))) 0 512)).isSome) = true) (h7 : (!bytesEq ((bytesOf (rowCut (kept (ofBytes (commitB s.toNat c.toNat g.toNat))) 0 512)).getD []) (kept (commitB s.toNat c.toNat g.toNat))) = false) (h8 : (!true == !bytesEq (kept (commitB s.toNat c.toNat g.toNat)) []) = false) (h9 : (kept (isCB (bytesL (rowCut (kept (ofBytes (commitB s.toNat c.toNat g.toNat))) 0 512)))) = true) (h10 : (AV.plainL (kept (ofBytes (commitB s.toNat c.toNat g.toNat)))) = true) (h11 : (u8L (rowCut (kept (ofBytes (commitB s.toNat c.toNat g.toNat))) 0 512)) = true) (h12 : ((rowCut (kept (ofBytes (commitB s.toNat c.toNat g.toNat))) 0 512).length.beq 512) = true) (h13 : (!(ieqB (AV.int IntKind.u8 (kept (byteI (bytesL (rowCut (kept (ofBytes (commitB s.toNat c.toNat g.toNat))) 0 512)) 2))).intOf (AV.int IntKind.u8 s).intOf && (ieqB (AV.int IntKind.u8 (kept (byteI (bytesL (rowCut (kept (ofBytes (commitB s.toNat c.toNat g.toNat))) 0 512)) 3))).intOf (AV.int IntKind.u8 c).intOf && (ieqB (AV.int IntKind.u64 (kept (genI (bytesL (rowCut (kept (ofBytes (commitB s.toNat c.toNat g.toNat))) 0 512))))).intOf (AV.int IntKind.u64 g).intOf && true)))) = false) (h14 : (AV.plainL cs) = true) (h15 : (u8L cs) = true) (h16 : (cs.length.beq l) = true) (h17 : (kept (isCB (bytesL (rowCut (kept (ofBytes (padB 512 (List.take 512 (bytesL cs))))) 0 512)))) = false) (h18 : (AV.plainL (kept (ofBytes (padB 512 (List.take 512 (bytesL cs)))))) = true) (h19 : (u8L (rowCut (kept (ofBytes (padB 512 (List.take 512 (bytesL cs))))) 0 512)) = true) (h20 : ((rowCut (kept (ofBytes (padB 512 (List.take 512 (bytesL cs))))) 0 512).length.beq 512) = true) (h21 : (kept !isCB (bytesL (rowCut (kept (ofBytes (padB 512 (List.take 512 (bytesL cs))))) 0 512))) = true) (h22 : (Nat.ble 3 (kept (ofBytes (padB 512 (List.take 512 (bytesL cs))))).length) = true) (h23 : (AV.isInt IntKind.u8 ((listAt (kept (ofBytes (padB 512 (List.take 512 (bytesL cs))))) 2).getD AV.undef)) = true) (h24 : (Nat.ble 4 (kept (ofBytes (padB 512 (List.take 512 (bytesL cs))))).length) = true) (h25 : (AV.isInt IntKind.u8 ((listAt (kept (ofBytes (padB 512 (List.take 512 (bytesL cs))))) 3).getD AV.undef)) = true) (h26 : ((bytesOf (rowCut (kept (ofBytes (padB 512 (List.take 512 (bytesL cs))))) 0 512)).isSome) = true) (h27 : (kept (rightC ((listAt (kept (ofBytes (padB 512 (List.take 512 (bytesL cs))))) 2).getD AV.undef).intOf ((listAt (kept (ofBytes (padB 512 (List.take 512 (bytesL cs))))) 3).getD AV.undef).intOf)) = true) (h28 : (ileB (Int.ofNat 0) ((listAt (kept (ofBytes (padB 512 (List.take 512 (bytesL cs))))) 2).getD AV.undef).intOf) = true) (h29 : (ileB (Int.ofNat 0) ((listAt (kept (ofBytes (padB 512 (List.take 512 (bytesL cs))))) 3).getD AV.undef).intOf) = true) (h30 : (ileB (Int.ofNat 0) (kept (genI (bytesL (rowCut (kept (ofBytes (padB 512 (List.take 512 (bytesL cs))))) 0 512))))) = true) (h31 : (iltB (kept (genI (bytesL (rowCut (kept (ofBytes (padB 512 (List.take 512 (bytesL cs))))) 0 512)))) (Int.ofNat 18446744073709551616)) = true) :
    ∃ h', aCall C6c 60 (Tgt.fn 10) [AV.int IntKind.u8 s, AV.int IntKind.u8 c, AV.int IntKind.u64 g, AV.fsl a l cs, AV.bool true] H0 = some (AV.bool !bytesEq (kept (commitB ((listAt (kept (ofBytes (padB 512 (List.take 512 (bytesL cs))))) 2).getD AV.undef).intOf.toNat ((listAt (kept (ofBytes (padB 512 (List.take 512 (bytesL cs))))) 3).getD AV.undef).intOf.toNat (kept (genI (bytesL (rowCut (kept (ofBytes (padB 512 (List.take 512 (bytesL cs))))) 0 512)))).toNat)) ((bytesOf (rowCut (kept (ofBytes (padB 512 (List.take 512 (bytesL cs))))) 0 512)).getD []), h') ∧ [].map h'.get = [] :=
  call_runT (q := (oc 4 (.z :: (oc 10 (.y :: (.y :: (.y :: (.y :: (.y :: (.y :: (.y :: (.y :: (.y :: (.y :: (.y :: (.y :: (oc 1 (.y :: (.z :: (.z :: (.z :: (.z :: (.z :: (.z :: (.z :: (.z :: (.z :: (oc 2 (.z :: (oc 1 (.z :: (oc 2 (.y :: (oc 1 (.y :: (.y :: (.y :: (.y :: (oc 21 (.z :: (oc 1 (.y :: (.y :: (.y :: (.z :: (oc 1 (.y :: (.y :: (.y :: (.y :: (oc 31 (.y :: (.y :: (oc 6 (.y :: (.y :: (oc 4 (.y :: (oc 2 (.y :: (.y :: (.y :: (oc 2 (.y :: (.y :: (.y :: (.y :: (.y :: (.y :: (oc 49 (.y :: (.y :: (.y :: (oc 1 (.y :: (.y :: (.y :: (oc 12 (.y :: (.y :: (.y :: (oc 1 (.y :: (.y :: (.y :: (oc 8 (.y :: (.y :: (oc 1 (.y :: (.y :: (oc 1 (.y :: (.y :: (oc 3 (.y :: (oc 2 (.y :: (oc 1 (.y :: (.y :: []))))))))))))))))))))))))))))))))))))))))))))))))))))))))))))))))))))))))))))))))))))))))))))))))))))) (c := (Cnd.tst _ false :: Cnd.tst _ true :: Cnd.tst _ true :: Cnd.tst _ true :: Cnd.tst _ true :: Cnd.tst _ true :: Cnd.tst _ true :: Cnd.tst _ true :: Cnd.tst _ true :: Cnd.tst _ true :: Cnd.tst _ true :: Cnd.tst _ true :: Cnd.tst _ true :: Cnd.tst _ true :: Cnd.tst _ false :: Cnd.tst _ false :: Cnd.tst _ false :: Cnd.tst _ false :: Cnd.tst _ false :: Cnd.tst _ false :: Cnd.tst _ false :: Cnd.tst _ false :: Cnd.tst _ false :: Cnd.tst _ false :: Cnd.tst _ false :: Cnd.tst _ true :: Cnd.tst _ true :: Cnd.tst _ true :: Cnd.tst _ true :: Cnd.tst _ true :: Cnd.tst _ false :: Cnd.tst _ true :: Cnd.tst _ true :: Cnd.tst _ true :: Cnd.tst _ false :: Cnd.tst _ true :: Cnd.tst _ true :: Cnd.tst _ true :: Cnd.tst _ true :: Cnd.tst _ true :: Cnd.tst _ true :: Cnd.tst _ true :: Cnd.tst _ true :: Cnd.tst _ true :: Cnd.tst _ true :: Cnd.tst _ true :: Cnd.tst _ true :: Cnd.tst _ true :: Cnd.tst _ true :: Cnd.tst _ true :: Cnd.tst _ true :: Cnd.tst _ true :: Cnd.tst _ true :: Cnd.tst _ true :: Cnd.tst _ true :: Cnd.same (AV.int IntKind.u8 ((listAt (kept (ofBytes (padB 512 (List.take 512 (bytesL cs))))) 2).getD AV.undef).intOf) (AV.int IntKind.u8 ((listAt (kept (ofBytes (padB 512 (List.take 512 (bytesL cs))))) 2).getD AV.undef).intOf) :: Cnd.tst _ true :: Cnd.tst _ true :: Cnd.same (AV.int IntKind.u8 ((listAt (kept (ofBytes (padB 512 (List.take 512 (bytesL cs))))) 2).getD AV.undef).intOf) (AV.int IntKind.u8 ((listAt (kept (ofBytes (padB 512 (List.take 512 (bytesL cs))))) 2).getD AV.undef).intOf) :: Cnd.tst _ true :: Cnd.tst _ true :: Cnd.same (AV.int IntKind.u8 ((listAt (kept (ofBytes (padB 512 (List.take 512 (bytesL cs))))) 3).getD AV.undef).intOf) (AV.int IntKind.u8 ((listAt (kept (ofBytes (padB 512 (List.take 512 (bytesL cs))))) 3).getD AV.undef).intOf) :: Cnd.tst _ true :: Cnd.tst _ true :: Cnd.same (AV.int IntKind.u8 ((listAt (kept (ofBytes (padB 512 (List.take 512 (bytesL cs))))) 3).getD AV.undef).intOf) (AV.int IntKind.u8 ((listAt (kept (ofBytes (padB 512 (List.take 512 (bytesL cs))))) 3).getD AV.undef).intOf) :: Cnd.tst _ true :: Cnd.same (AV.str ((bytesOf (rowCut (kept (ofBytes (padB 512 (List.take 512 (bytesL cs))))) 0 512)).getD [])) (AV.str ((bytesOf (rowCut (kept (ofBytes (padB 512 (List.take 512 (bytesL cs))))) 0 512)).getD [])) :: Cnd.tst _ true :: Cnd.same (AV.str ((bytesOf (rowCut (kept (ofBytes (padB 512 (List.take 512 (bytesL cs))))) 0 512)).getD [])) (AV.str ((bytesOf (rowCut (kept (ofBytes (padB 512 (List.take 512 (bytesL cs))))) 0 512)).getD [])) :: Cnd.tst _ true :: Cnd.same (AV.str ((bytesOf (rowCut (kept (ofBytes (padB 512 (List.take 512 (bytesL cs))))) 0 512)).getD [])) (AV.str ((bytesOf (rowCut (kept (ofBytes (padB 512 (List.take 512 (bytesL cs))))) 0 512)).getD [])) :: Cnd.same (AV.bool !bytesEq (kept (commitB ((listAt (kept (ofBytes (padB 512 (List.take 512 (bytesL cs))))) 2).getD AV.undef).intOf.toNat ((listAt (kept (ofBytes (padB 512 (List.take 512 (bytesL cs))))) 3).getD AV.undef).intOf.toNat (kept (genI (bytesL (rowCut (kept (ofBytes (padB 512 (List.take 512 (bytesL cs))))) 0 512)))).toNat)) ((bytesOf (rowCut (kept (ofBytes (padB 512 (List.take 512 (bytesL cs))))) 0 512)).getD [])) (AV.bool !bytesEq (kept (commitB ((listAt (kept (ofBytes (padB 512 (List.take 512 (bytesL cs))))) 2).getD AV.undef).intOf.toNat ((listAt (kept (ofBytes (padB 512 (List.take 512 (bytesL cs))))) 3).getD AV.undef).intOf.toNat (kept (genI (bytesL (rowCut (kept (ofBytes (padB 512 (List.take 512 (bytesL cs))))) 0 512)))).toNat)) ((bytesOf (rowCut (kept (ofBytes (padB 512 (List.take 512 (bytesL cs))))) 0 512)).getD [])) :: Cnd.same (AV.bool !bytesEq (kept (commitB ((listAt (kept (ofBytes (padB 512 (List.take 512 (bytesL cs))))) 2).getD AV.undef).intOf.toNat ((listAt (kept (ofBytes (padB 512 (List.take 512 (bytesL cs))))) 3).getD AV.undef).intOf.toNat (kept (genI (bytesL (rowCut (kept (ofBytes (padB 512 (List.take 512 (bytesL cs))))) 0 512)))).toNat)) ((bytesOf (rowCut (kept (ofBytes (padB 512 (List.take 512 (bytesL cs))))) 0 512)).getD [])) (AV.bool !bytesEq (kept (commitB ((listAt (kept (ofBytes (padB 512 (List.take 512 (bytesL cs))))) 2).getD AV.undef).intOf.toNat ((listAt (kept (ofBytes (padB 512 (List.take 512 (bytesL cs))))) 3).getD AV.undef).intOf.toNat (kept (genI (bytesL (rowCut (kept (ofBytes (padB 512 (List.take 512 (bytesL cs))))) 0 512)))).toNat)) ((bytesOf (rowCut (kept (ofBytes (padB 512 (List.take 512 (bytesL cs))))) 0 512)).getD [])) :: Cnd.same (AV.bool !bytesEq (kept (commitB ((listAt (kept (ofBytes (padB 512 (List.take 512 (bytesL cs))))) 2).getD AV.undef).intOf.toNat ((listAt (kept (ofBytes (padB 512 (List.take 512 (bytesL cs))))) 3).getD AV.undef).intOf.toNat (kept (genI (bytesL (rowCut (kept (ofBytes (padB 512 (List.take 512 (bytesL cs))))) 0 512)))).toNat)) ((bytesOf (rowCut (kept (ofBytes (padB 512 (List.take 512 (bytesL cs))))) 0 512)).getD [])) (AV.bool !bytesEq (kept (commitB ((listAt (kept (ofBytes (padB 512 (List.take 512 (bytesL cs))))) 2).getD AV.undef).intOf.toNat ((listAt (kept (ofBytes (padB 512 (List.take 512 (bytesL cs))))) 3).getD AV.undef).intOf.toNat (kept (genI (bytesL (rowCut (kept (ofBytes (padB 512 (List.take 512 (bytesL cs))))) 0 512)))).toNat)) ((bytesOf (rowCut (kept (ofBytes (padB 512 (List.take 512 (bytesL cs))))) 0 512)).getD [])) :: Cnd.same (AV.bool !bytesEq (kept (commitB ((listAt (kept (ofBytes (padB 512 (List.take 512 (bytesL cs))))) 2).getD AV.undef).intOf.toNat ((listAt (kept (ofBytes (padB 512 (List.take 512 (bytesL cs))))) 3).getD AV.undef).intOf.toNat (kept (genI (bytesL (rowCut (kept (ofBytes (padB 512 (List.take 512 (bytesL cs))))) 0 512)))).toNat)) ((bytesOf (rowCut (kept (ofBytes (padB 512 (List.take 512 (bytesL cs))))) 0 512)).getD [])) (AV.bool !bytesEq (kept (commitB ((listAt (kept (ofBytes (padB 512 (List.take 512 (bytesL cs))))) 2).getD AV.undef).intOf.toNat ((listAt (kept (ofBytes (padB 512 (List.take 512 (bytesL cs))))) 3).getD AV.undef).intOf.toNat (kept (genI (bytesL (rowCut (kept (ofBytes (padB 512 (List.take 512 (bytesL cs))))) 0 512)))).toNat)) ((bytesOf (rowCut (kept (ofBytes (padB 512 (List.take 512 (bytesL cs))))) 0 512)).getD [])) :: [])) (by kernel_rfl) ⟨h0, h1, h2, h3, h4, h5, h1, h1, h2, h3, h4, h5, h1, h6, h7, h7, h7, h7, h7, h7, h8, h8, h8, h8, h8, h9, h10, h11, h12, h9, h13, h14, h15, h16, h17, h18, h19, h20, h21, h22, h23, h24, h25, h26, h18, h19, h20, h27, h28, h29, h30, h31, h27, h22, h23, rfl, h22, h23, rfl, h24, h25, rfl, h24, h25, rfl, h26, rfl, h26, rfl, h26, rfl, rfl, rfl, rfl, rfl, trivial⟩
theorem sc_r_wn3 (s : Int) (c : Int) (g : Int) (a : Bool) (l : Nat) (cs : List AV) (h0 : (iltB (Int.ofNat 600) (Int.ofNat l)) = false) (h1 : (kept (rightC s c)) = true) (h2 : (ileB (Int.ofNat 0) s) = true) (h3 : (ileB (Int.ofNat 0) c) = true) (h4 : (ileB (Int.ofNat 0) g) = true) (h5 : (iltB g (Int.ofNat 18446744073709551616)) = true) (h6 : ((bytesOf (rowCut (kept (ofBytes (commitB s.toNat c.toNat g.toNat))) 0 512)).isSome) = true) (h7 : (!bytesEq ((bytesOf (rowCut (kept (ofBytes (commitB s.toNat c.toNat g.toNat))) 0 512)).getD []) (kept (commitB s.toNat c.toNat g.toNat))) = false) (h8 : (!true == !bytesEq (kept (commitB s.toNat c.toNat g.toNat)) []) = false) (h9 : (kept (isCB (bytesL (rowCut (kept (ofBytes (commitB s.toNat c.toNat g.toNat))) 0 512)))) = true) (h10 : (AV.plainL (kept (ofBytes (commitB s.toNat c.toNat g.toNat)))) = true) (h11 : (u8L (rowCut (kept (ofBytes (commitB s.toNat c.toNat g.toNat))) 0 512)) = true) (h12 : ((rowCut (kept (ofBytes (commitB s.toNat c.toNat g.toNat))) 0 512).length.beq 512) = true) (h13 : (!(ieqB (AV.int IntKind.u8 (kept (byteI (bytesL (rowCut (kept (ofBytes (commitB s.toNat c.toNat g.toNat))) 0 512)) 2))).intOf (AV.int IntKind.u8 s).intOf && (ieqB (AV.int IntKind.u8 (kept (byteI (bytesL (rowCut (kept (ofBytes (commitB s.toNat c.toNat g.toNat))) 0 512)) 3))).intOf (AV.int IntKind.u8 c).intOf && (ieqB (AV.int IntKind.u64 (kept (genI (bytesL (rowCut (kept (ofBytes (commitB s.toNat c.toNat g.toNat))) 0 512))))).intOf (AV.int IntKind.u64 g).intOf && true)))) = false) (h14 : (AV.plainL cs) = true) (h15 : (u8L cs) = true) (h16 : (cs.length.beq l) = true) (h17 : (kept (isCB (bytesL (rowCut (kept (ofBytes (padB 512 (List.take 512 (bytesL cs))))) 0 512)))) = false) (h18 : (AV.plainL (kept (ofBytes (padB 512 (List.take 512 (bytesL cs)))))) = true) (h19 : (u8L (rowCut (kept (ofBytes (padB 512 (List.take 512 (bytesL cs))))) 0 512)) = true) (h20 : ((rowCut (kept (ofBytes (padB 512 (List.take 512 (bytesL cs))))) 0 512).length.beq 512) = true) (h21 : (kept !isCB (bytesL (rowCut (kept (ofBytes (padB 512 (List.take 512 (bytesL cs))))) 0 512))) = true) (h22 : (Nat.ble 3 (kept (ofBytes (padB 512 (List.take 512 (bytesL cs))))).length) = true) (h23 : (AV.isInt IntKind.u8 ((listAt (kept (ofBytes (padB 512 (List.take 512 (bytesL cs))))) 2).getD AV.undef)) = true) (h24 : (Nat.ble 4 (kept (ofBytes (padB 512 (List.take 512 (bytesL cs))))).length) = true) (h25 : (AV.isInt IntKind.u8 ((listAt (kept (ofBytes (padB 512 (List.take 512 (bytesL cs))))) 3).getD AV.undef)) = true) (h26 : ((bytesOf (rowCut (kept (ofBytes (padB 512 (List.take 512 (bytesL cs))))) 0 512)).isSome) = true) (h27 : (kept (rightC ((listAt (kept (ofBytes (padB 512 (List.take 512 (bytesL cs))))) 2).getD AV.undef).intOf ((listAt (kept (ofBytes (padB 512 (List.take 512 (bytesL cs))))) 3).getD AV.undef).intOf)) = false) (h28 : (kept !rightC ((listAt (kept (ofBytes (padB 512 (List.take 512 (bytesL cs))))) 2).getD AV.undef).intOf ((listAt (kept (ofBytes (padB 512 (List.take 512 (bytesL cs))))) 3).getD AV.undef).intOf) = true) :
    ∃ h', aCall C6c 60 (Tgt.fn 10) [AV.int IntKind.u8 s, AV.int IntKind.u8 c, AV.int IntKind.u64 g, AV.fsl a l cs, AV.bool true] H0 = some (AV.bool !bytesEq [] ((bytesOf (rowCut (kept (ofBytes (padB 512 (List.take 512 (bytesL cs))))) 0 512)).getD []), h') ∧ [].map h'.get = [] :=
  call_runT (q := (oc 4 (.z :: (oc 10 (.y :: (.y :: (.y :: (.y :: (.y :: (.y :: (.y :: (.y :: (.y :: (.y :: (.y :: (.y :: (oc 1 (.y :: (.z :: (.z :: (.z :: (.z :: (.z :: (.z :: (.z :: (.z :: (.z :: (oc 2 (.z :: (oc 1 (.z :: (oc 2 (.y :: (oc 1 (.y :: (.y :: (.y :: (.y :: (oc 21 (.z :: (oc 1 (.y :: (.y :: (.y :: (.z :: (oc 1 (.y :: (.y :: (.y :: (.y :: (oc 31 (.y :: (.y :: (oc 6 (.y :: (.y :: (oc 4 (.y :: (oc 2 (.y :: (.y :: (.y :: (oc 2 (.z :: (.y :: (oc 49 (.y :: (.y :: (.y :: (oc 1 (.y :: (.y :: (.y :: (oc 12 (.y :: (.y :: (.y :: (oc 1 (.y :: (.y :: (.y :: (oc 8 (.y :: (.y :: (oc 1 (.y :: (.y :: (oc 1 (.y :: (.y :: (oc 3 (.y :: (oc 2 (.y :: (oc 1 (.y :: (.y :: []))))))))))))))))))))))))))))))))))))))))))))))))))))))))))))))))))))))))))))))))))))))))))))))))) (c := (Cnd.tst _ false :: Cnd.tst _ true :: Cnd.tst _ true :: Cnd.tst _ true :: Cnd.tst _ true :: Cnd.tst _ true :: Cnd.tst _ true :: Cnd.tst _ true :: Cnd.tst _ true :: Cnd.tst _ true :: Cnd.tst _ true :: Cnd.tst _ true :: Cnd.tst _ true :: Cnd.tst _ true :: Cnd.tst _ false :: Cnd.tst _ false :: Cnd.tst _ false :: Cnd.tst _ false :: Cnd.tst _ false :: Cnd.tst _ false :: Cnd.tst _ false :: Cnd.tst _ false :: Cnd.tst _ false :: Cnd.tst _ false :: Cnd.tst _ false :: Cnd.tst _ true :: Cnd.tst _ true :: Cnd.tst _ true :: Cnd.tst _ true :: Cnd.tst _ true :: Cnd.tst _ false :: Cnd.tst _ true :: Cnd.tst _ true :: Cnd.tst _ true :: Cnd.tst _ false :: Cnd.tst _ true :: Cnd.tst _ true :: Cnd.tst _ true :: Cnd.tst _ true :: Cnd.tst _ true :: Cnd.tst _ true :: Cnd.tst _ true :: Cnd.tst _ true :: Cnd.tst _ true :: Cnd.tst _ true :: Cnd.tst _ true :: Cnd.tst _ true :: Cnd.tst _ false :: Cnd.tst _ true :: Cnd.tst _ true :: Cnd.tst _ true :: Cnd.same (AV.int IntKind.u8 ((listAt (kept (ofBytes (padB 512 (List.take 512 (bytesL cs))))) 2).getD AV.undef).intOf) (AV.int IntKind.u8 ((listAt (kept (ofBytes (padB 512 (List.take 512 (bytesL cs))))) 2).getD AV.undef).intOf) :: Cnd.tst _ true :: Cnd.tst _ true :: Cnd.same (AV.int IntKind.u8 ((listAt (kept (ofBytes (padB 512 (List.take 512 (bytesL cs))))) 2).getD AV.undef).intOf) (AV.int IntKind.u8 ((listAt (kept (ofBytes (padB 512 (List.take 512 (bytesL cs))))) 2).getD AV.undef).intOf) :: Cnd.tst _ true :: Cnd.tst _ true :: Cnd.same (AV.int IntKind.u8 ((listAt (kept (ofBytes (padB 512 (List.take 512 (bytesL cs))))) 3).getD AV.undef).intOf) (AV.int IntKind.u8 ((listAt (kept (ofBytes (padB 512 (List.take 512 (bytesL cs))))) 3).getD AV.undef).intOf) :: Cnd.tst _ true :: Cnd.tst _ true :: Cnd.same (AV.int IntKind.u8 ((listAt (kept (ofBytes (padB 512 (List.take 512 (bytesL cs))))) 3).getD AV.undef).intOf) (AV.int IntKind.u8 ((listAt (kept (ofBytes (padB 512 (List.take 512 (bytesL cs))))) 3).getD AV.undef).intOf) :: Cnd.tst _ true :: Cnd.same (AV.str ((bytesOf (rowCut (kept (ofBytes (padB 512 (List.take 512 (bytesL cs))))) 0 512)).getD [])) (AV.str ((bytesOf (rowCut (kept (ofBytes (padB 512 (List.take 512 (bytesL cs))))) 0 512)).getD [])) :: Cnd.tst _ true :: Cnd.same (AV.str ((bytesOf (rowCut (kept (ofBytes (padB 512 (List.take 512 (bytesL cs))))) 0 512)).getD [])) (AV.str ((bytesOf (rowCut (kept (ofBytes (padB 512 (List.take 512 (bytesL cs))))) 0 512)).getD [])) :: Cnd.tst _ true :: Cnd.same (AV.str ((bytesOf (rowCut (kept (ofBytes (padB 512 (List.take 512 (bytesL cs))))) 0 512)).getD [])) (AV.str ((bytesOf (rowCut (kept (ofBytes (padB 512 (List.take 512 (bytesL cs))))) 0 512)).getD [])) :: Cnd.same (AV.bool !bytesEq [] ((bytesOf (rowCut (kept (ofBytes (padB 512 (List.take 512 (bytesL cs))))) 0 512)).getD [])) (AV.bool !bytesEq [] ((bytesOf (rowCut (kept (ofBytes (padB 512 (List.take 512 (bytesL cs))))) 0 512)).getD [])) :: Cnd.same (AV.bool !bytesEq [] ((bytesOf (rowCut (kept (ofBytes (padB 512 (List.take 512 (bytesL cs))))) 0 512)).getD [])) (AV.bool !bytesEq [] ((bytesOf (rowCut (kept (ofBytes (padB 512 (List.take 512 (bytesL cs))))) 0 512)).getD [])) :: Cnd.same (AV.bool !bytesEq [] ((bytesOf (rowCut (kept (ofBytes (padB 512 (List.take 512 (bytesL cs))))) 0 512)).getD [])) (AV.bool !bytesEq [] ((bytesOf (rowCut (kept (ofBytes (padB 512 (List.take 512 (bytesL cs))))) 0 512)).getD [])) :: Cnd.same (AV.bool !bytesEq [] ((bytesOf (rowCut (kept (ofBytes (padB 512 (List.take 512 (bytesL cs))))) 0 512)).getD [])) (AV.bool !bytesEq [] ((bytesOf (rowCut (kept (ofBytes (padB 512 (List.take 512 (bytesL cs))))) 0 512)).getD [])) :: [])) (by kernel_rfl) ⟨h0, h1, h2, h3, h4, h5, h1, h1, h2, h3, h4, h5, h1, h6, h7, h7, h7, h7, h7, h7, h8, h8, h8, h8, h8, h9, h10, h11, h12, h9, h13, h14, h15, h16, h17, h18, h19, h20, h21, h22, h23, h24, h25, h26, h18, h19, h20, h27, h28, h22, h23, rfl, h22, h23, rfl, h24, h25, rfl, h24, h25, rfl, h26, rfl, h26, rfl, h26, rfl, rfl, rfl, rfl, rfl, trivial⟩
theorem sc_n_y (s : Int) (c : Int) (g : Int) (a : Bool) (l : Nat) (cs : List AV) (h0 : (iltB (Int.ofNat 600) (Int.ofNat l)) = false) (h1 : (kept (rightC s c)) = false) (h2 : (kept !rightC s c) = true) (h3 : (kept (isCB (bytesL cs))) = true) (h4 : (AV.plainL cs) = true) (h5 : (u8L cs) = true) (h6 : (cs.length.beq l) = true) (h7 : ((bytesOf cs).isSome) = true) (h8 : (kept (rightC (AV.int IntKind.u8 (kept (byteI (bytesL cs) 2))).intOf (AV.int IntKind.u8 (kept (byteI (bytesL cs) 3))).intOf)) = true) (h9 : (ileB (Int.ofNat 0) (AV.int IntKind.u8 (kept (byteI (bytesL cs) 2))).intOf) = true) (h10 : (ileB (Int.ofNat 0) (AV.int IntKind.u8 (kept (byteI (bytesL cs) 3))).intOf) = true) (h11 : (ileB (Int.ofNat 0) (AV.int IntKind.u64 (kept (genI (bytesL cs)))).intOf) = true) (h12 : (iltB (AV.int IntKind.u64 (kept (genI (bytesL cs)))).intOf (Int.ofNat 18446744073709551616)) = true) :
    ∃ h', aCall C6c 60 (Tgt.fn 10) [AV.int IntKind.u8 s, AV.int IntKind.u8 c, AV.int IntKind.u64 g, AV.fsl a l cs, AV.bool false] H0 = some (AV.bool (bytesEq (kept (commitB (AV.int IntKind.u8 (kept (byteI (bytesL cs) 2))).intOf.toNat (AV.int IntKind.u8 (kept (byteI (bytesL cs) 3))).intOf.toNat (AV.int IntKind.u64 (kept (genI (bytesL cs)))).intOf.toNat)) ((bytesOf cs).getD [])), h') ∧ [].map h'.get = [] :=
  call_runT (q := (oc 4 (.z :: (oc 10 (.z :: (.y :: (.z :: (.y :: (oc 17 (.y :: (.y :: (.y :: (.y :: (.y :: (oc 13 (.y :: (.y :: (.y :: (.y :: (.y :: (.y :: (.y :: (.y :: (oc 4 (.y :: (oc 4 (.y :: (oc 4 (.y :: (.y :: (.y :: (.y :: (.y :: (.y :: (.y :: (.y :: (.y :: (.y :: (.y :: []))))))))))))))))))))))))))))))))))))))) (c := (Cnd.tst _ false :: Cnd.tst _ false :: Cnd.tst _ true :: Cnd.tst _ false :: Cnd.tst _ true :: Cnd.tst _ true :: Cnd.tst _ true :: Cnd.tst _ true :: Cnd.tst _ true :: Cnd.tst _ true :: Cnd.tst _ true :: Cnd.tst _ true :: Cnd.tst _ true :: Cnd.tst _ true :: Cnd.tst _ true :: Cnd.tst _ true :: Cnd.tst _ true :: Cnd.tst _ true :: Cnd.same (AV.int IntKind.u8 (AV.int IntKind.u8 (kept (byteI (bytesL cs) 2))).intOf) (AV.int IntKind.u8 (AV.int IntKind.u8 (kept (byteI (bytesL cs) 2))).intOf) :: Cnd.same (AV.int IntKind.u8 (AV.int IntKind.u8 (kept (byteI (bytesL cs) 3))).intOf) (AV.int IntKind.u8 (AV.int IntKind.u8 (kept (byteI (bytesL cs) 3))).intOf) :: Cnd.same (AV.int IntKind.u64 (AV.int IntKind.u64 (kept (genI (bytesL cs)))).intOf) (AV.int IntKind.u64 (AV.int IntKind.u64 (kept (genI (bytesL cs)))).intOf) :: Cnd.same (AV.fsl a l cs) (AV.fsl a l cs) :: Cnd.same (AV.fsl a l cs) (AV.fsl a l cs) :: Cnd.tst _ true :: Cnd.tst _ true :: Cnd.same (AV.str ((bytesOf cs).getD [])) (AV.str ((bytesOf cs).getD [])) :: Cnd.tst _ true :: Cnd.tst _ true :: Cnd.same (AV.str ((bytesOf cs).getD [])) (AV.str ((bytesOf cs).getD [])) :: Cnd.same (AV.bool (bytesEq (kept (commitB (AV.int IntKind.u8 (kept (byteI (bytesL cs) 2))).intOf.toNat (AV.int IntKind.u8 (kept (byteI (bytesL cs) 3))).intOf.toNat (AV.int IntKind.u64 (kept (genI (bytesL cs)))).intOf.toNat)) ((bytesOf cs).getD []))) (AV.bool (bytesEq (kept (commitB (AV.int IntKind.u8 (kept (byteI (bytesL cs) 2))).intOf.toNat (AV.int IntKind.u8 (kept (byteI (bytesL cs) 3))).intOf.toNat (AV.int IntKind.u64 (kept (genI (bytesL cs)))).intOf.toNat)) ((bytesOf cs).getD []))) :: Cnd.same (AV.bool (bytesEq (kept (commitB (AV.int IntKind.u8 (kept (byteI (bytesL cs) 2))).intOf.toNat (AV.int IntKind.u8 (kept (byteI (bytesL cs) 3))).intOf.toNat (AV.int IntKind.u64 (kept (genI (bytesL cs)))).intOf.toNat)) ((bytesOf cs).getD []))) (AV.bool (bytesEq (kept (commitB (AV.int IntKind.u8 (kept (byteI (bytesL cs) 2))).intOf.toNat (AV.int IntKind.u8 (kept (byteI (bytesL cs) 3))).intOf.toNat (AV.int IntKind.u64 (kept (genI (bytesL cs)))).intOf.toNat)) ((bytesOf cs).getD []))) :: [])) (by kernel_rfl) ⟨h0, h1, h2, h1, h2, h3, h4, h5, h6, h3, h6, h7, h8, h9, h10, h11, h12, h8, rfl, rfl, rfl, rfl, rfl, h6, h7, rfl, h6, h7, rfl, rfl, rfl, trivial⟩
theorem sc_n_n1 (s : Int) (c : Int) (g : Int) (a : Bool) (l : Nat) (cs : List AV) (h0 : (iltB (Int.ofNat 600) (Int.ofNat l)) = false) (h1 : (kept (rightC s c)) = false) (h2 : (kept !rightC s c) = true) (h3 : (kept (isCB (bytesL cs))) = false) (h4 : (AV.plainL cs) = true) (h5 : (u8L cs) = true) (h6 : (cs.length.beq l) = true) (h7 : (kept !isCB (bytesL cs)) = true) (h8 : (!ieqB (Int.ofNat l) (Int.ofNat 512)) = true) :
    ∃ h', aCall C6c 60 (Tgt.fn 10) [AV.int IntKind.u8 s, AV.int IntKind.u8 c, AV.int IntKind.u64 g, AV.fsl a l cs, AV.bool false] H0 = some (AV.bool true, h') ∧ [].map h'.get = [] :=
  call_runT (q := (oc 4 (.z :: (oc 10 (.z :: (.y :: (.z :: (.y :: (oc 17 (.z :: (.y :: (.y :: (.y :: (.y :: (oc 25 (.y :: (.y :: (.y :: (.y :: (.y :: (.y :: (.y :: (.y :: (.y :: (.y :: (.y :: (.y :: (oc 1 (.y :: (oc 27 (.y :: (oc 1 (.y :: (oc 1 (.y :: (oc 1 (.y :: (.y :: (.y :: (.y :: (.y :: (.y :: (.y :: (.y :: (.y :: (.y :: (.y :: (.y :: (.y :: (oc 1 (.y :: (oc 4 [])))))))))))))))))))))))))))))))))))))))))))))))))))) (c := (Cnd.tst _ false :: Cnd.tst _ false :: Cnd.tst _ true :: Cnd.tst _ false :: Cnd.tst _ true :: Cnd.tst _ false :: Cnd.tst _ true :: Cnd.tst _ true :: Cnd.tst _ true :: Cnd.tst _ true :: Cnd.tst _ true :: Cnd.tst _ true :: Cnd.tst _ true :: Cnd.tst _ true :: Cnd.tst _ true :: Cnd.tst _ true :: Cnd.tst _ true :: Cnd.tst _ true :: Cnd.tst _ true :: Cnd.tst _ true :: Cnd.tst _ true :: Cnd.tst _ true :: Cnd.tst _ true :: Cnd.same (AV.fsl a l cs) (AV.fsl a l cs) :: Cnd.same (AV.int IntKind.i64 (Int.ofNat l)) (AV.int IntKind.i64 (Int.ofNat l)) :: Cnd.same (AV.bool !ieqB (Int.ofNat l) (Int.ofNat 512)) (AV.bool !ieqB (Int.ofNat l) (Int.ofNat 512)) :: Cnd.same (AV.bool !ieqB (Int.ofNat l) (Int.ofNat 512)) (AV.bool !ieqB (Int.ofNat l) (Int.ofNat 512)) :: Cnd.tst _ true :: Cnd.tst _ true :: Cnd.tst _ true :: Cnd.tst _ true :: Cnd.tst _ true :: Cnd.tst _ true :: Cnd.tst _ true :: Cnd.tst _ true :: Cnd.tst _ true :: Cnd.tst _ true :: Cnd.tst _ true :: Cnd.tst _ true :: Cnd.tst _ true :: [])) (by kernel_rfl) ⟨h0, h1, h2, h1, h2, h3, h4, h5, h6, h7, h8, h8, h8, h8, h8, h8, h8, h8, h8, h8, h8, h8, h8, rfl, rfl, rfl, rfl, h8, h8, h8, h8, h8, h8, h8, h8, h8, h8, h8, h8, h8, trivial⟩
theorem sc_n_n2 (s : Int) (c : Int) (g : Int) (a : Bool) (l : Nat) (cs : List AV) (h0 : (iltB (Int.ofNat 600) (Int.ofNat l)) = false) (h1 : (kept (rightC s c)) = false) (h2 : (kept !rightC s c) = true) (h3 : (kept (isCB (bytesL cs))) = false) (h4 : (AV.plainL cs) = true) (h5 : (u8L cs) = true) (h6 : (cs.length.beq l) = true) (h7 : (kept !isCB (bytesL cs)) = true) (h8 : (!ieqB (Int.ofNat l) (Int.ofNat 512)) = false) (h9 : (Nat.ble 3 l) = true) (h10 : (cs.length.beq (l.mul 1)) = true) (h11 : (Nat.ble 1 (List.drop 2 cs).length) = true) (h12 : (AV.isInt IntKind.u8 ((listAt (List.drop 2 cs) 0).getD AV.undef)) = true) (h13 : (Nat.ble 4 l) = true) (h14 : (Nat.ble 1 (List.drop 3 cs).length) = true) (h15 : (AV.isInt IntKind.u8 ((listAt (List.drop 3 cs) 0).getD AV.undef)) = true) (h16 : ((bytesOf cs).isSome) = true) (h17 : (Nat.ble 12 l) = true) (h18 : (kept (rightC ((listAt (List.drop 2 cs) 0).getD AV.undef).intOf ((listAt (List.drop 3 cs) 0).getD AV.undef).intOf)) = true) (h19 : (ileB (Int.ofNat 0) ((listAt (List.drop 2 cs) 0).getD AV.undef).intOf) = true) (h20 : (ileB (Int.ofNat 0) ((listAt (List.drop 3 cs) 0).getD AV.undef).intOf) = true) (h21 : (ileB (Int.ofNat 0) (kept (genI (bytesL cs)))) = true) (h22 : (iltB (kept (genI (bytesL cs))) (Int.ofNat 18446744073709551616)) = true) :
    ∃ h', aCall C6c 60 (Tgt.fn 10) [AV.int IntKind.u8 s, AV.int IntKind.u8 c, AV.int IntKind.u64 g, AV.fsl a l cs, AV.bool false] H0 = some (AV.bool !bytesEq (kept (commitB ((listAt (List.drop 2 cs) 0).getD AV.undef).intOf.toNat ((listAt (List.drop 3 cs) 0).getD AV.undef).intOf.toNat (kept (genI (bytesL cs))).toNat)) ((bytesOf cs).getD []), h') ∧ [].map h'.get = [] :=
  call_runT (q := (oc 4 (.z :: (oc 10 (.z :: (.y :: (.z :: (.y :: (oc 17 (.z :: (.y :: (.y :: (.y :: (.y :: (oc 25 (.z :: (.z :: (oc 1 (.y :: (.y :: (.z :: (.y :: (.y :: (.z :: (.z :: (oc 1 (.y :: (.y :: (.z :: (.y :: (.y :: (.z :: (.z :: (.z :: (.y :: (.y :: (.z :: (.y :: (.y :: (.y :: (.y :: (.z :: (.y :: (.y :: (.y :: (.y :: (.y :: (.y :: (.z :: (oc 1 (.z :: (oc 27 (.y :: (oc 1 (.y :: (oc 1 (.y :: (oc 1 (.y :: (.z :: (.y :: (.y :: (.z :: (oc 1 (.y :: (.y :: (.y :: (oc 1 (.y :: (.y :: (.y :: (.z :: (.y :: (.y :: (.y :: (.y :: (.y :: (.y :: (.z :: (.y :: (.y :: (.z :: (oc 1 (.y :: (.y :: (.y :: (oc 1 (.y :: (.y :: (.y :: (.z :: (.y :: (.y :: (.y :: (.y :: (.y :: (.y :: (.z :: (.y :: (.z :: (.y :: (.y :: (.y :: (.z :: (.y :: (.y :: (.y :: (.y :: (.y :: (.y :: (.y :: (.y :: (.y :: (.z :: (.z :: (.z :: (.y :: (oc 1 (.z :: (.y :: (oc 1 (.y :: (.y :: []))))))))))))))))))))))))))))))))))))))))))))))))))))))))))))))))))))))))))))))))))))))))))))))))))))))))))))))))))))))))))) (c := (Cnd.tst _ false :: Cnd.tst _ false :: Cnd.tst _ true :: Cnd.tst _ false :: Cnd.tst _ true :: Cnd.tst _ false :: Cnd.tst _ true :: Cnd.tst _ true :: Cnd.tst _ true :: Cnd.tst _ true :: Cnd.tst _ false :: Cnd.tst _ false :: Cnd.tst _ true :: Cnd.tst _ true :: Cnd.tst _ false :: Cnd.tst _ true :: Cnd.tst _ true :: Cnd.tst _ false :: Cnd.tst _ false :: Cnd.tst _ true :: Cnd.tst _ true :: Cnd.tst _ false :: Cnd.tst _ true :: Cnd.tst _ true :: Cnd.tst _ false :: Cnd.tst _ false :: Cnd.tst _ false :: Cnd.tst _ true :: Cnd.tst _ true :: Cnd.tst _ false :: Cnd.tst _ true :: Cnd.tst _ true :: Cnd.tst _ true :: Cnd.tst _ true :: Cnd.tst _ false :: Cnd.tst _ true :: Cnd.tst _ true :: Cnd.tst _ true :: Cnd.tst _ true :: Cnd.tst _ true :: Cnd.tst _ true :: Cnd.tst _ false :: Cnd.tst _ false :: Cnd.same (AV.fsl a l cs) (AV.fsl a l cs) :: Cnd.same (AV.int IntKind.i64 (Int.ofNat l)) (AV.int IntKind.i64 (Int.ofNat l)) :: Cnd.same (AV.bool !ieqB (Int.ofNat l) (Int.ofNat 512)) (AV.bool !ieqB (Int.ofNat l) (Int.ofNat 512)) :: Cnd.same (AV.bool !ieqB (Int.ofNat l) (Int.ofNat 512)) (AV.bool !ieqB (Int.ofNat l) (Int.ofNat 512)) :: Cnd.tst _ false :: Cnd.same (AV.fsl a l cs) (AV.fsl a l cs) :: Cnd.same (AV.fsl a l cs) (AV.fsl a l cs) :: Cnd.tst _ false :: Cnd.tst _ true :: Cnd.tst _ true :: Cnd.same (AV.fptr (List.drop 2 cs)) (AV.fptr (List.drop 2 cs)) :: Cnd.tst _ true :: Cnd.tst _ true :: Cnd.same (AV.fptr (List.drop 2 cs)) (AV.fptr (List.drop 2 cs)) :: Cnd.tst _ false :: Cnd.tst _ true :: Cnd.tst _ true :: Cnd.same (AV.int IntKind.u8 ((listAt (List.drop 2 cs) 0).getD AV.undef).intOf) (AV.int IntKind.u8 ((listAt (List.drop 2 cs) 0).getD AV.undef).intOf) :: Cnd.tst _ true :: Cnd.tst _ true :: Cnd.same (AV.int IntKind.u8 ((listAt (List.drop 2 cs) 0).getD AV.undef).intOf) (AV.int IntKind.u8 ((listAt (List.drop 2 cs) 0).getD AV.undef).intOf) :: Cnd.tst _ false :: Cnd.same (AV.fsl a l cs) (AV.fsl a l cs) :: Cnd.same (AV.fsl a l cs) (AV.fsl a l cs) :: Cnd.tst _ false :: Cnd.tst _ true :: Cnd.tst _ true :: Cnd.same (AV.fptr (List.drop 3 cs)) (AV.fptr (List.drop 3 cs)) :: Cnd.tst _ true :: Cnd.tst _ true :: Cnd.same (AV.fptr (List.drop 3 cs)) (AV.fptr (List.drop 3 cs)) :: Cnd.tst _ false :: Cnd.tst _ true :: Cnd.tst _ true :: Cnd.same (AV.int IntKind.u8 ((listAt (List.drop 3 cs) 0).getD AV.undef).intOf) (AV.int IntKind.u8 ((listAt (List.drop 3 cs) 0).getD AV.undef).intOf) :: Cnd.tst _ true :: Cnd.tst _ true :: Cnd.same (AV.int IntKind.u8 ((listAt (List.drop 3 cs) 0).getD AV.undef).intOf) (AV.int IntKind.u8 ((listAt (List.drop 3 cs) 0).getD AV.undef).intOf) :: Cnd.tst _ false :: Cnd.same (AV.fsl a l cs) (AV.fsl a l cs) :: Cnd.tst _ false :: Cnd.same (AV.fsl a l cs) (AV.fsl a l cs) :: Cnd.same (AV.fsl a l cs) (AV.fsl a l cs) :: Cnd.same (AV.fsl a l cs) (AV.fsl a l cs) :: Cnd.tst _ false :: Cnd.tst _ true :: Cnd.tst _ true :: Cnd.same (AV.str ((bytesOf cs).getD [])) (AV.str ((bytesOf cs).getD [])) :: Cnd.tst _ true :: Cnd.tst _ true :: Cnd.same (AV.str ((bytesOf cs).getD [])) (AV.str ((bytesOf cs).getD [])) :: Cnd.tst _ true :: Cnd.tst _ true :: Cnd.same (AV.str ((bytesOf cs).getD [])) (AV.str ((bytesOf cs).getD [])) :: Cnd.tst _ false :: Cnd.tst _ false :: Cnd.tst _ false :: Cnd.same (AV.bool !bytesEq (kept (commitB ((listAt (List.drop 2 cs) 0).getD AV.undef).intOf.toNat ((listAt (List.drop 3 cs) 0).getD AV.undef).intOf.toNat (kept (genI (bytesL cs))).toNat)) ((bytesOf cs).getD [])) (AV.bool !bytesEq (kept (commitB ((listAt (List.drop 2 cs) 0).getD AV.undef).intOf.toNat ((listAt (List.drop 3 cs) 0).getD AV.undef).intOf.toNat (kept (genI (bytesL cs))).toNat)) ((bytesOf cs).getD [])) :: Cnd.tst _ false :: Cnd.same (AV.bool !bytesEq (kept (commitB ((listAt (List.drop 2 cs) 0).getD AV.undef).intOf.toNat ((listAt (List.drop 3 cs) 0).getD AV.undef).intOf.toNat (kept (genI (bytesL cs))).toNat)) ((bytesOf cs).getD [])) (AV.bool !bytesEq (kept (commitB ((listAt (List.drop 2 cs) 0).getD AV.undef).intOf.toNat ((listAt (List.drop 3 cs) 0).getD AV.undef).intOf.toNat (kept (genI (bytesL cs))).toNat)) ((bytesOf cs).getD [])) :: Cnd.same (AV.bool !bytesEq (kept (commitB ((listAt (List.drop 2 cs) 0).getD AV.undef).intOf.toNat ((listAt (List.drop 3 cs) 0).getD AV.undef).intOf.toNat (kept (genI (bytesL cs))).toNat)) ((bytesOf cs).getD [])) (AV.bool !bytesEq (kept (commitB ((listAt (List.drop 2 cs) 0).getD AV.undef).intOf.toNat ((listAt (List.drop 3 cs) 0).getD AV.undef).intOf.toNat (kept (genI (bytesL cs))).toNat)) ((bytesOf cs).getD [])) :: Cnd.same (AV.bool !bytesEq (kept (commitB ((listAt (List.drop 2 cs) 0).getD AV.undef).intOf.toNat ((listAt (List.drop 3 cs) 0).getD AV.undef).intOf.toNat (kept (genI (bytesL cs))).toNat)) ((bytesOf cs).getD [])) (AV.bool !bytesEq (kept (commitB ((listAt (List.drop 2 cs) 0).getD AV.undef).intOf.toNat ((listAt (List.drop 3 cs) 0).getD AV.undef).intOf.toNat (kept (genI (bytesL cs))).toNat)) ((bytesOf cs).getD [])) :: [])) (by kernel_rfl) ⟨h0, h1, h2, h1, h2, h3, h4, h5, h6, h7, h8, h8, h9, h10, h8, h11, h12, h8, h8, h13, h10, h8, h14, h15, h8, h8, h8, h6, h16, h8, h4, h5, h6, h17, h8, h18, h19, h20, h21, h22, h18, h8, h8, rfl, rfl, rfl, rfl, h8, rfl, rfl, h8, h9, h10, rfl, h9, h10, rfl, h8, h11, h12, rfl, h11, h12, rfl, h8, rfl, rfl, h8, h13, h10, rfl, h13, h10, rfl, h8, h14, h15, rfl, h14, h15, rfl, h8, rfl, h8, rfl, rfl, rfl, h8, h6, h16, rfl, h6, h16, rfl, h6, h16, rfl, h8, h8, h8, rfl, h8, rfl, rfl, rfl, trivial⟩
theorem sc_n_n3 (s : Int) (c : Int) (g : Int) (a : Bool) (l : Nat) (cs : List AV) (h0 : (iltB (Int.ofNat 600) (Int.ofNat l)) = false) (h1 : (kept (rightC s c)) = false) (h2 : (kept !rightC s c) = true) (h3 : (kept (isCB (bytesL cs))) = false) (h4 : (AV.plainL cs) = true) (h5 : (u8L cs) = true) (h6 : (cs.length.beq l) = true) (h7 : (kept !isCB (bytesL cs)) = true) (h8 : (!ieqB (Int.ofNat l) (Int.ofNat 512)) = false) (h9 : (Nat.ble 3 l) = true) (h10 : (cs.length.beq (l.mul 1)) = true) (h11 : (Nat.ble 1 (List.drop 2 cs).length) = true) (h12 : (AV.isInt IntKind.u8 ((listAt (List.drop 2 cs) 0).getD AV.undef)) = true) (h13 : (Nat.ble 4 l) = true) (h14 : (Nat.ble 1 (List.drop 3 cs).length) = true) (h15 : (AV.isInt IntKind.u8 ((listAt (List.drop 3 cs) 0).getD AV.undef)) = true) (h16 : ((bytesOf cs).isSome) = true) (h17 : (Nat.ble 12 l) = true) (h18 : (kept (rightC ((listAt (List.drop 2 cs) 0).getD AV.undef).intOf ((listAt (List.drop 3 cs) 0).getD AV.undef).intOf)) = false) (h19 : (kept !rightC ((listAt (List.drop 2 cs) 0).getD AV.undef).intOf ((listAt (List.drop 3 cs) 0).getD AV.undef).intOf) = true) :
    ∃ h', aCall C6c 60 (Tgt.fn 10) [AV.int IntKind.u8 s, AV.int IntKind.u8 c, AV.int IntKind.u64 g, AV.fsl a l cs, AV.bool false] H0 = some (AV.bool !bytesEq [] ((bytesOf cs).getD []), h') ∧ [].map h'.get = [] :=
  call_runT (q := (oc 4 (.z :: (oc 10 (.z :: (.y :: (.z :: (.y :: (oc 17 (.z :: (.y :: (.y :: (.y :: (.y :: (oc 25 (.z :: (.z :: (oc 1 (.y :: (.y :: (.z :: (.y :: (.y :: (.z :: (.z :: (oc 1 (.y :: (.y :: (.z :: (.y :: (.y :: (.z :: (.z :: (.z :: (.y :: (.y :: (.z :: (.y :: (.y :: (.y :: (.y :: (.z :: (.z :: (.y :: (.z :: (oc 1 (.z :: (oc 27 (.y :: (oc 1 (.y :: (oc 1 (.y :: (oc 1 (.y :: (.z :: (.y :: (.y :: (.z :: (oc 1 (.y :: (.y :: (.y :: (oc 1 (.y :: (.y :: (.y :: (.z :: (.y :: (.y :: (.y :: (.y :: (.y :: (.y :: (.z :: (.y :: (.y :: (.z :: (oc 1 (.y :: (.y :: (.y :: (oc 1 (.y :: (.y :: (.y :: (.z :: (.y :: (.y :: (.y :: (.y :: (.y :: (.y :: (.z :: (.y :: (.z :: (.y :: (.y :: (.y :: (.z :: (.y :: (.y :: (.y :: (.y :: (.y :: (.y :: (.y :: (.y :: (.y :: (.z :: (.z :: (.z :: (.y :: (oc 1 (.z :: (.y :: (oc 1 (.y :: (.y :: []))))))))))))))))))))))))))))))))))))))))))))))))))))))))))))))))))))))))))))))))))))))))))))))))))))))))))))))))))))))) (c := (Cnd.tst _ false :: Cnd.tst _ false :: Cnd.tst _ true :: Cnd.tst _ false :: Cnd.tst _ true :: Cnd.tst _ false :: Cnd.tst _ true :: Cnd.tst _ true :: Cnd.tst _ true :: Cnd.tst _ true :: Cnd.tst _ false :: Cnd.tst _ false :: Cnd.tst _ true :: Cnd.tst _ true :: Cnd.tst _ false :: Cnd.tst _ true :: Cnd.tst _ true :: Cnd.tst _ false :: Cnd.tst _ false :: Cnd.tst _ true :: Cnd.tst _ true :: Cnd.tst _ false :: Cnd.tst _ true :: Cnd.tst _ true :: Cnd.tst _ false :: Cnd.tst _ false :: Cnd.tst _ false :: Cnd.tst _ true :: Cnd.tst _ true :: Cnd.tst _ false :: Cnd.tst _ true :: Cnd.tst _ true :: Cnd.tst _ true :: Cnd.tst _ true :: Cnd.tst _ false :: Cnd.tst _ false :: Cnd.tst _ true :: Cnd.tst _ false :: Cnd.tst _ false :: Cnd.same (AV.fsl a l cs) (AV.fsl a l cs) :: Cnd.same (AV.int IntKind.i64 (Int.ofNat l)) (AV.int IntKind.i64 (Int.ofNat l)) :: Cnd.same (AV.bool !ieqB (Int.ofNat l) (Int.ofNat 512)) (AV.bool !ieqB (Int.ofNat l) (Int.ofNat 512)) :: Cnd.same (AV.bool !ieqB (Int.ofNat l) (Int.ofNat 512)) (AV.bool !ieqB (Int.ofNat l) (Int.ofNat 512)) :: Cnd.tst _ false :: Cnd.same (AV.fsl a l cs) (AV.fsl a l cs) :: Cnd.same (AV.fsl a l cs) (AV.fsl a l cs) :: Cnd.tst _ false :: Cnd.tst _ true :: Cnd.tst _ true :: Cnd.same (AV.fptr (List.drop 2 cs)) (AV.fptr (List.drop 2 cs)) :: Cnd.tst _ true :: Cnd.tst _ true :: Cnd.same (AV.fptr (List.drop 2 cs)) (AV.fptr (List.drop 2 cs)) :: Cnd.tst _ false :: Cnd.tst _ true :: Cnd.tst _ true :: Cnd.same (AV.int IntKind.u8 ((listAt (List.drop 2 cs) 0).getD AV.undef).intOf) (AV.int IntKind.u8 ((listAt (List.drop 2 cs) 0).getD AV.undef).intOf) :: Cnd.tst _ true :: Cnd.tst _ true :: Cnd.same (AV.int IntKind.u8 ((listAt (List.drop 2 cs) 0).getD AV.undef).intOf) (AV.int IntKind.u8 ((listAt (List.drop 2 cs) 0).getD AV.undef).intOf) :: Cnd.tst _ false :: Cnd.same (AV.fsl a l cs) (AV.fsl a l cs) :: Cnd.same (AV.fsl a l cs) (AV.fsl a l cs) :: Cnd.tst _ false :: Cnd.tst _ true :: Cnd.tst _ true :: Cnd.same (AV.fptr (List.drop 3 cs)) (AV.fptr (List.drop 3 cs)) :: Cnd.tst _ true :: Cnd.tst _ true :: Cnd.same (AV.fptr (List.drop 3 cs)) (AV.fptr (List.drop 3 cs)) :: Cnd.tst _ false :: Cnd.tst _ true :: Cnd.tst _ true :: Cnd.same (AV.int IntKind.u8 ((listAt (List.drop 3 cs) 0).getD AV.undef).intOf) (AV.int IntKind.u8 ((listAt (List.drop 3 cs) 0).getD AV.undef).intOf) :: Cnd.tst _ true :: Cnd.tst _ true :: Cnd.same (AV.int IntKind.u8 ((listAt (List.drop 3 cs) 0).getD AV.undef).intOf) (AV.int IntKind.u8 ((listAt (List.drop 3 cs) 0).getD AV.undef).intOf) :: Cnd.tst _ false :: Cnd.same (AV.fsl a l cs) (AV.fsl a l cs) :: Cnd.tst _ false :: Cnd.same (AV.fsl a l cs) (AV.fsl a l cs) :: Cnd.same (AV.fsl a l cs) (AV.fsl a l cs) :: Cnd.same (AV.fsl a l cs) (AV.fsl a l cs) :: Cnd.tst _ false :: Cnd.tst _ true :: Cnd.tst _ true :: Cnd.same (AV.str ((bytesOf cs).getD [])) (AV.str ((bytesOf cs).getD [])) :: Cnd.tst _ true :: Cnd.tst _ true :: Cnd.same (AV.str ((bytesOf cs).getD [])) (AV.str ((bytesOf cs).getD [])) :: Cnd.tst _ true :: Cnd.tst _ true :: Cnd.same (AV.str ((bytesOf cs).getD [])) (AV.str ((bytesOf cs).getD [])) :: Cnd.tst _ false :: Cnd.tst _ false :: Cnd.tst _ false :: Cnd.same (AV.bool !bytesEq [] ((bytesOf cs).getD [])) (AV.bool !bytesEq [] ((bytesOf cs).getD [])) :: Cnd.tst _ false :: Cnd.same (AV.bool !bytesEq [] ((bytesOf cs).getD [])) (AV.bool !bytesEq [] ((bytesOf cs).getD [])) :: Cnd.same (AV.bool !bytesEq [] ((bytesOf cs).getD [])) (AV.bool !bytesEq [] ((bytesOf cs).getD [])) :: Cnd.same (AV.bool !bytesEq [] ((bytesOf cs).getD [])) (AV.bool !bytesEq [] ((bytesOf cs).getD [])) :: [])) (by kernel_rfl) ⟨h0, h1, h2, h1, h2, h3, h4, h5, h6, h7, h8, h8, h9, h10, h8, h11, h12, h8, h8, h13, h10, h8, h14, h15, h8, h8, h8, h6, h16, h8, h4, h5, h6, h17, h8, h18, h19, h8, h8, rfl, rfl, rfl, rfl, h8, rfl, rfl, h8, h9, h10, rfl, h9, h10, rfl, h8, h11, h12, rfl, h11, h12, rfl, h8, rfl, rfl, h8, h13, h10, rfl, h13, h10, rfl, h8, h14, h15, rfl, h14, h15, rfl, h8, rfl, h8, rfl, rfl, rfl, h8, h6, h16, rfl, h6, h16, rfl, h6, h16, rfl, h8, h8, h8, rfl, h8, rfl, rfl, rfl, trivial⟩
theorem sc_n_wy (s : Int) (c : Int) (g : Int) (a : Bool) (l : Nat) (cs : List AV) (h0 : (iltB (Int.ofNat 600) (Int.ofNat l)) = false) (h1 : (kept (rightC s c)) = false) (h2 : (kept !rightC s c) = true) (h3 : (AV.plainL cs) = true) (h4 : (u8L cs) = true) (h5 : (cs.length.beq l) = true) (h6 : (kept (isCB (bytesL (rowCut (kept (ofBytes (padB 512 (List.take 512 (bytesL cs))))) 0 512)))) = true) (h7 : (AV.plainL (kept (ofBytes (padB 512 (List.take 512 (bytesL cs)))))) = true) (h8 : (u8L (rowCut (kept (ofBytes (padB 512 (List.take 512 (bytesL cs))))) 0 512)) = true) (h9 : ((rowCut (kept (ofBytes (padB 512 (List.take 512 (bytesL cs))))) 0 512).length.beq 512) = true) (h10 : ((bytesOf (rowCut (kept (ofBytes (padB 512 (List.take 512 (bytesL cs))))) 0 512)).isSome) = true) (h11 : (kept (rightC (AV.int IntKind.u8 (kept (byteI (bytesL (rowCut (kept (ofBytes (padB 512 (List.take 512 (bytesL cs))))) 0 512)) 2))).intOf (AV.int IntKind.u8 (kept (byteI (bytesL (rowCut (kept (ofBytes (padB 512 (List.take 512 (bytesL cs))))) 0 512)) 3))).intOf)) = true) (h12 : (ileB (Int.ofNat 0) (AV.int IntKind.u8 (kept (byteI (bytesL (rowCut (kept (ofBytes (padB 512 (List.take 512 (bytesL cs))))) 0 512)) 2))).intOf) = true) (h13 : (ileB (Int.ofNat 0) (AV.int IntKind.u8 (kept (byteI (bytesL (rowCut (kept (ofBytes (padB 512 (List.take 512 (bytesL cs))))) 0 512)) 3))).intOf) = true) (h14 : (ileB (Int.ofNat 0) (AV.int IntKind.u64 (kept (genI (bytesL (rowCut (kept (ofBytes (padB 512 (List.take 512 (bytesL cs))))) 0 512))))).intOf) = true) (h15 : (iltB (AV.int IntKind.u64 (kept (genI (bytesL (rowCut (kept (ofBytes (padB 512 (List.take 512 (bytesL cs))))) 0 512))))).intOf (Int.ofNat 18446744073709551616)) = true) :
    ∃ h', aCall C6c 60 (Tgt.fn 10) [AV.int IntKind.u8 s, AV.int IntKind.u8 c, AV.int IntKind.u64 g, AV.fsl a l cs, AV.bool true] H0 = some (AV.bool (bytesEq (kept (commitB (AV.int IntKind.u8 (kept (byteI (bytesL (rowCut (kept (ofBytes (padB 512 (List.take 512 (bytesL cs))))) 0 512)) 2))).intOf.toNat (AV.int IntKind.u8 (kept (byteI (bytesL (rowCut (kept (ofBytes (padB 512 (List.take 512 (bytesL cs))))) 0 512)) 3))).intOf.toNat (AV.int IntKind.u64 (kept (genI (bytesL (rowCut (kept (ofBytes (padB 512 (List.take 512 (bytesL cs))))) 0 512))))).intOf.toNat)) ((bytesOf (rowCut (kept (ofBytes (padB 512 (List.take 512 (bytesL cs))))) 0 512)).getD [])), h') ∧ [].map h'.get = [] :=
  call_runT (q := (oc 4 (.z :: (oc 10 (.z :: (.y :: (.z :: (.y :: (oc 17 (.y :: (.y :: (.y :: (.y :: (oc 1 (.y :: (.y :: (.y :: (.y :: (oc 14 (.y :: (.y :: (.y :: (.y :: (.y :: (.y :: (.y :: (oc 4 (.y :: (oc 4 (.y :: (oc 4 (.y :: (oc 3 (.y :: (.y :: (oc 1 (.y :: (.y :: (.y :: (.y :: [])))))))))))))))))))))))))))))))))))))))) (c := (Cnd.tst _ false :: Cnd.tst _ false :: Cnd.tst _ true :: Cnd.tst _ false :: Cnd.tst _ true :: Cnd.tst _ true :: Cnd.tst _ true :: Cnd.tst _ true :: Cnd.tst _ true :: Cnd.tst _ true :: Cnd.tst _ true :: Cnd.tst _ true :: Cnd.tst _ true :: Cnd.tst _ true :: Cnd.tst _ true :: Cnd.tst _ true :: Cnd.tst _ true :: Cnd.tst _ true :: Cnd.tst _ true :: Cnd.tst _ true :: Cnd.same (AV.int IntKind.u8 (AV.int IntKind.u8 (kept (byteI (bytesL (rowCut (kept (ofBytes (padB 512 (List.take 512 (bytesL cs))))) 0 512)) 2))).intOf) (AV.int IntKind.u8 (AV.int IntKind.u8 (kept (byteI (bytesL (rowCut (kept (ofBytes (padB 512 (List.take 512 (bytesL cs))))) 0 512)) 2))).intOf) :: Cnd.same (AV.int IntKind.u8 (AV.int IntKind.u8 (kept (byteI (bytesL (rowCut (kept (ofBytes (padB 512 (List.take 512 (bytesL cs))))) 0 512)) 3))).intOf) (AV.int IntKind.u8 (AV.int IntKind.u8 (kept (byteI (bytesL (rowCut (kept (ofBytes (padB 512 (List.take 512 (bytesL cs))))) 0 512)) 3))).intOf) :: Cnd.same (AV.int IntKind.u64 (AV.int IntKind.u64 (kept (genI (bytesL (rowCut (kept (ofBytes (padB 512 (List.take 512 (bytesL cs))))) 0 512))))).intOf) (AV.int IntKind.u64 (AV.int IntKind.u64 (kept (genI (bytesL (rowCut (kept (ofBytes (padB 512 (List.take 512 (bytesL cs))))) 0 512))))).intOf) :: Cnd.tst _ true :: Cnd.same (AV.str ((bytesOf (rowCut (kept (ofBytes (padB 512 (List.take 512 (bytesL cs))))) 0 512)).getD [])) (AV.str ((bytesOf (rowCut (kept (ofBytes (padB 512 (List.take 512 (bytesL cs))))) 0 512)).getD [])) :: Cnd.tst _ true :: Cnd.same (AV.str ((bytesOf (rowCut (kept (ofBytes (padB 512 (List.take 512 (bytesL cs))))) 0 512)).getD [])) (AV.str ((bytesOf (rowCut (kept (ofBytes (padB 512 (List.take 512 (bytesL cs))))) 0 512)).getD [])) :: Cnd.same (AV.bool (bytesEq (kept (commitB (AV.int IntKind.u8 (kept (byteI (bytesL (rowCut (kept (ofBytes (padB 512 (List.take 512 (bytesL cs))))) 0 512)) 2))).intOf.toNat (AV.int IntKind.u8 (kept (byteI (bytesL (rowCut (kept (ofBytes (padB 512 (List.take 512 (bytesL cs))))) 0 512)) 3))).intOf.toNat (AV.int IntKind.u64 (kept (genI (bytesL (rowCut (kept (ofBytes (padB 512 (List.take 512 (bytesL cs))))) 0 512))))).intOf.toNat)) ((bytesOf (rowCut (kept (ofBytes (padB 512 (List.take 512 (bytesL cs))))) 0 512)).getD []))) (AV.bool (bytesEq (kept (commitB (AV.int IntKind.u8 (kept (byteI (bytesL (rowCut (kept (ofBytes (padB 512 (List.take 512 (bytesL cs))))) 0 512)) 2))).intOf.toNat (AV.int IntKind.u8 (kept (byteI (bytesL (rowCut (kept (ofBytes (padB 512 (List.take 512 (bytesL cs))))) 0 512)) 3))).intOf.toNat (AV.int IntKind.u64 (kept (genI (bytesL (rowCut (kept (ofBytes (padB 512 (List.take 512 (bytesL cs))))) 0 512))))).intOf.toNat)) ((bytesOf (rowCut (kept (ofBytes (padB 512 (List.take 512 (bytesL cs))))) 0 512)).getD []))) :: Cnd.same (AV.bool (bytesEq (kept (commitB (AV.int IntKind.u8 (kept (byteI (bytesL (rowCut (kept (ofBytes (padB 512 (List.take 512 (bytesL cs))))) 0 512)) 2))).intOf.toNat (AV.int IntKind.u8 (kept (byteI (bytesL (rowCut (kept (ofBytes (padB 512 (List.take 512 (bytesL cs))))) 0 512)) 3))).intOf.toNat (AV.int IntKind.u64 (kept (genI (bytesL (rowCut (kept (ofBytes (padB 512 (List.take 512 (bytesL cs))))) 0 512))))).intOf.toNat)) ((bytesOf (rowCut (kept (ofBytes (padB 512 (List.take 512 (bytesL cs))))) 0 512)).getD []))) (AV.bool (bytesEq (kept (commitB (AV.int IntKind.u8 (kept (byteI (bytesL (rowCut (kept (ofBytes (padB 512 (List.take 512 (bytesL cs))))) 0 512)) 2))).intOf.toNat (AV.int IntKind.u8 (kept (byteI (bytesL (rowCut (kept (ofBytes (padB 512 (List.take 512 (bytesL cs))))) 0 512)) 3))).intOf.toNat (AV.int IntKind.u64 (kept (genI (bytesL (rowCut (kept (ofBytes (padB 512 (List.take 512 (bytesL cs))))) 0 512))))).intOf.toNat)) ((bytesOf (rowCut (kept (ofBytes (padB 512 (List.take 512 (bytesL cs))))) 0 512)).getD []))) :: [])) (by kernel_rfl) ⟨h0, h1, h2, h1, h2, h3, h4, h5, h6, h7, h8, h9, h6, h10, h11, h12, h13, h14, h15, h11, rfl, rfl, rfl, h10, rfl, h10, rfl, rfl, rfl, trivial⟩
theorem sc_n_wn2 (s : Int) (c : Int) (g : Int) (a : Bool) (l : Nat) (cs : List AV) (h0 : (iltB (Int.ofNat 600) (Int.ofNat l)) = false) (h1 : (kept (rightC s c)) = false) (h2 : (kept !rightC s c) = true) (h3 : (AV.plainL cs) = true) (h4 : (u8L cs) = true) (h5 : (cs.length.beq l) = true) (h6 : (kept (isCB (bytesL (rowCut (kept (ofBytes (padB 512 (List.take 512 (bytesL cs))))) 0 512)))) = false) (h7 : (AV.plainL (kept (ofBytes (padB 512 (List.take 512 (bytesL cs)))))) = true) (h8 : (u8L (rowCut (kept (ofBytes (padB 512 (List.take 512 (bytesL cs))))) 0 512)) = true) (h9 : ((rowCut (kept (ofBytes (padB 512 (List.take 512 (bytesL cs))))) 0 512).length.beq 512) = true) (h10 : (kept !isCB (bytesL (rowCut (kept (ofBytes (padB 512 (List.take 512 (bytesL cs))))) 0 512))) = true) (h11 : (Nat.ble 3 (kept (ofBytes (padB 512 (List.take 512 (bytesL cs))))).length) = true) (h12 : (AV.isInt IntKind.u8 ((listAt (kept (ofBytes (padB 512 (List.take 512 (bytesL cs))))) 2).getD AV.undef)) = true) (h13 : (Nat.ble 4 (kept (ofBytes (padB 512 (List.take 512 (bytesL cs))))).length) = true) (h14 : (AV.isInt IntKind.u8 ((listAt (kept (ofBytes (padB 512 (List.take 512 (bytesL cs))))) 3).getD AV.undef)) = true) (h15 : ((bytesOf (rowCut (kept (ofBytes (padB 512 (List.take 512 (bytesL cs))))) 0 512)).isSome) = true) (h16 : (kept (rightC ((listAt (kept (ofBytes (padB 512 (List.take 512 (bytesL cs))))) 2).getD AV.undef).intOf ((listAt (kept (ofBytes (padB 512 (List.take 512 (bytesL cs))))) 3).getD AV.undef).intOf)) = true) (h17 : (ileB (Int.ofNat 0) ((listAt (kept (ofBytes (padB 512 (List.take 512 (bytesL cs))))) 2).getD AV.undef).intOf) = true) (h18 : (ileB (Int.ofNat 0) ((listAt (kept (ofBytes (padB 512 (List.take 512 (bytesL cs))))) 3).getD AV.undef).intOf) = true) (h19 : (ileB (Int.ofNat 0) (kept (genI (bytesL (rowCut (kept (ofBytes (padB 512 (List.take 512 (bytesL cs))))) 0 512))))) = true) (h20 : (iltB (kept (genI (bytesL (rowCut (kept (ofBytes (padB 512 (List.take 512 (bytesL cs))))) 0 512)))) (Int.ofNat 18446744073709551616)) = true) :
    ∃ h', aCall C6c 60 (Tgt.fn 10) [AV.int IntKind.u8 s, AV.int IntKind.u8 c, AV.int IntKind.u64 g, AV.fsl a l cs, AV.bool true] H0 = some (AV.bool !bytesEq (kept (commitB ((listAt (kept (ofBytes (padB 512 (List.take 512 (bytesL cs))))) 2).getD AV.undef).intOf.toNat ((listAt (kept (ofBytes (padB 512 (List.take 512 (bytesL cs))))) 3).getD AV.undef).intOf.toNat (kept (genI (bytesL (rowCut (kept (ofBytes (padB 512 (List.take 512 (bytesL cs))))) 0 512)))).toNat)) ((bytesOf (rowCut (kept (ofBytes (padB 512 (List.take 512 (bytesL cs))))) 0 512)).getD []), h') ∧ [].map h'.get = [] :=
  call_runT (q := (oc 4 (.z :: (oc 10 (.z :: (.y :: (.z :: (.y :: (oc 17 (.y :: (.y :: (.y :: (.z :: (oc 1 (.y :: (.y :: (.y :: (.y :: (oc 31 (.y :: (.y :: (oc 6 (.y :: (.y :: (oc 4 (.y :: (oc 2 (.y :: (.y :: (.y :: (oc 2 (.y :: (.y :: (.y :: (.y :: (.y :: (.y :: (oc 49 (.y :: (.y :: (.y :: (oc 1 (.y :: (.y :: (.y :: (oc 12 (.y :: (.y :: (.y :: (oc 1 (.y :: (.y :: (.y :: (oc 8 (.y :: (.y :: (oc 1 (.y :: (.y :: (oc 1 (.y :: (.y :: (oc 3 (.y :: (oc 2 (.y :: (oc 1 (.y :: (.y :: []))))))))))))))))))))))))))))))))))))))))))))))))))))))))))))))))))))) (c := (Cnd.tst _ false :: Cnd.tst _ false :: Cnd.tst _ true :: Cnd.tst _ false :: Cnd.tst _ true :: Cnd.tst _ true :: Cnd.tst _ true :: Cnd.tst _ true :: Cnd.tst _ false :: Cnd.tst _ true :: Cnd.tst _ true :: Cnd.tst _ true :: Cnd.tst _ true :: Cnd.tst _ true :: Cnd.tst _ true :: Cnd.tst _ true :: Cnd.tst _ true :: Cnd.tst _ true :: Cnd.tst _ true :: Cnd.tst _ true :: Cnd.tst _ true :: Cnd.tst _ true :: Cnd.tst _ true :: Cnd.tst _ true :: Cnd.tst _ true :: Cnd.tst _ true :: Cnd.tst _ true :: Cnd.tst _ true :: Cnd.tst _ true :: Cnd.same (AV.int IntKind.u8 ((listAt (kept (ofBytes (padB 512 (List.take 512 (bytesL cs))))) 2).getD AV.undef).intOf) (AV.int IntKind.u8 ((listAt (kept (ofBytes (padB 512 (List.take 512 (bytesL cs))))) 2).getD AV.undef).intOf) :: Cnd.tst _ true :: Cnd.tst _ true :: Cnd.same (AV.int IntKind.u8 ((listAt (kept (ofBytes (padB 512 (List.take 512 (bytesL cs))))) 2).getD AV.undef).intOf) (AV.int IntKind.u8 ((listAt (kept (ofBytes (padB 512 (List.take 512 (bytesL cs))))) 2).getD AV.undef).intOf) :: Cnd.tst _ true :: Cnd.tst _ true :: Cnd.same (AV.int IntKind.u8 ((listAt (kept (ofBytes (padB 512 (List.take 512 (bytesL cs))))) 3).getD AV.undef).intOf) (AV.int IntKind.u8 ((listAt (kept (ofBytes (padB 512 (List.take 512 (bytesL cs))))) 3).getD AV.undef).intOf) :: Cnd.tst _ true :: Cnd.tst _ true :: Cnd.same (AV.int IntKind.u8 ((listAt (kept (ofBytes (padB 512 (List.take 512 (bytesL cs))))) 3).getD AV.undef).intOf) (AV.int IntKind.u8 ((listAt (kept (ofBytes (padB 512 (List.take 512 (bytesL cs))))) 3).getD AV.undef).intOf) :: Cnd.tst _ true :: Cnd.same (AV.str ((bytesOf (rowCut (kept (ofBytes (padB 512 (List.take 512 (bytesL cs))))) 0 512)).getD [])) (AV.str ((bytesOf (rowCut (kept (ofBytes (padB 512 (List.take 512 (bytesL cs))))) 0 512)).getD [])) :: Cnd.tst _ true :: Cnd.same (AV.str ((bytesOf (rowCut (kept (ofBytes (padB 512 (List.take 512 (bytesL cs))))) 0 512)).getD [])) (AV.str ((bytesOf (rowCut (kept (ofBytes (padB 512 (List.take 512 (bytesL cs))))) 0 512)).getD [])) :: Cnd.tst _ true :: Cnd.same (AV.str ((bytesOf (rowCut (kept (ofBytes (padB 512 (List.take 512 (bytesL cs))))) 0 512)).getD [])) (AV.str ((bytesOf (rowCut (kept (ofBytes (padB 512 (List.take 512 (bytesL cs))))) 0 512)).getD [])) :: Cnd.same (AV.bool !bytesEq (kept (commitB ((listAt (kept (ofBytes (padB 512 (List.take 512 (bytesL cs))))) 2).getD AV.undef).intOf.toNat ((listAt (kept (ofBytes (padB 512 (List.take 512 (bytesL cs))))) 3).getD AV.undef).intOf.toNat (kept (genI (bytesL (rowCut (kept (ofBytes (padB 512 (List.take 512 (bytesL cs))))) 0 512)))).toNat)) ((bytesOf (rowCut (kept (ofBytes (padB 512 (List.take 512 (bytesL cs))))) 0 512)).getD [])) (AV.bool !bytesEq (kept (commitB ((listAt (kept (ofBytes (padB 512 (List.take 512 (bytesL cs))))) 2).getD AV.undef).intOf.toNat ((listAt (kept (ofBytes (padB 512 (List.take 512 (bytesL cs))))) 3).getD AV.undef).intOf.toNat (kept (genI (bytesL (rowCut (kept (ofBytes (padB 512 (List.take 512 (bytesL cs))))) 0 512)))).toNat)) ((bytesOf (rowCut (kept (ofBytes (padB 512 (List.take 512 (bytesL cs))))) 0 512)).getD [])) :: Cnd.same (AV.bool !bytesEq (kept (commitB ((listAt (kept (ofBytes (padB 512 (List.take 512 (bytesL cs))))) 2).getD AV.undef).intOf.toNat ((listAt (kept (ofBytes (padB 512 (List.take 512 (bytesL cs))))) 3).getD AV.undef).intOf.toNat (kept (genI (bytesL (rowCut (kept (ofBytes (padB 512 (List.take 512 (bytesL cs))))) 0 512)))).toNat)) ((bytesOf (rowCut (kept (ofBytes (padB 512 (List.take 512 (bytesL cs))))) 0 512)).getD [])) (AV.bool !bytesEq (kept (commitB ((listAt (kept (ofBytes (padB 512 (List.take 512 (bytesL cs))))) 2).getD AV.undef).intOf.toNat ((listAt (kept (ofBytes (padB 512 (List.take 512 (bytesL cs))))) 3).getD AV.undef).intOf.toNat (kept (genI (bytesL (rowCut (kept (ofBytes (padB 512 (List.take 512 (bytesL cs))))) 0 512)))).toNat)) ((bytesOf (rowCut (kept (ofBytes (padB 512 (List.take 512 (bytesL cs))))) 0 512)).getD [])) :: Cnd.same (AV.bool !bytesEq (kept (commitB ((listAt (kept (ofBytes (padB 512 (List.take 512 (bytesL cs))))) 2).getD AV.undef).intOf.toNat ((listAt (kept (ofBytes (padB 512 (List.take 512 (bytesL cs))))) 3).getD AV.undef).intOf.toNat (kept (genI (bytesL (rowCut (kept (ofBytes (padB 512 (List.take 512 (bytesL cs))))) 0 512)))).toNat)) ((bytesOf (rowCut (kept (ofBytes (padB 512 (List.take 512 (bytesL cs))))) 0 512)).getD [])) (AV.bool !bytesEq (kept (commitB ((listAt (kept (ofBytes (padB 512 (List.take 512 (bytesL cs))))) 2).getD AV.undef).intOf.toNat ((listAt (kept (ofBytes (padB 512 (List.take 512 (bytesL cs))))) 3).getD AV.undef).intOf.toNat (kept (genI (bytesL (rowCut (kept (ofBytes (padB 512 (List.take 512 (bytesL cs))))) 0 512)))).toNat)) ((bytesOf (rowCut (kept (ofBytes (padB 512 (List.take 512 (bytesL cs))))) 0 512)).getD [])) :: Cnd.same (AV.bool !bytesEq (kept (commitB ((listAt (kept (ofBytes (padB 512 (List.take 512 (bytesL cs))))) 2).getD AV.undef).intOf.toNat ((listAt (kept (ofBytes (padB 512 (List.take 512 (bytesL cs))))) 3).getD AV.undef).intOf.toNat (kept (genI (bytesL (rowCut (kept (ofBytes (padB 512 (List.take 512 (bytesL cs))))) 0 512)))).toNat)) ((bytesOf (rowCut (kept (ofBytes (padB 512 (List.take 512 (bytesL cs))))) 0 512)).getD [])) (AV.bool !bytesEq (kept (commitB ((listAt (kept (ofBytes (padB 512 (List.take 512 (bytesL cs))))) 2).getD AV.undef).intOf.toNat ((listAt (kept (ofBytes (padB 512 (List.take 512 (bytesL cs))))) 3).getD AV.undef).intOf.toNat (kept (genI (bytesL (rowCut (kept (ofBytes (padB 512 (List.take 512 (bytesL cs))))) 0 512)))).toNat)) ((bytesOf (rowCut (kept (ofBytes (padB 512 (List.take 512 (bytesL cs))))) 0 512)).getD [])) :: [])) (by kernel_rfl) ⟨h0, h1, h2, h1, h2, h3, h4, h5, h6, h7, h8, h9, h10, h11, h12, h13, h14, h15, h7, h8, h9, h16, h17, h18, h19, h20, h16, h11, h12, rfl, h11, h12, rfl, h13, h14, rfl, h13, h14, rfl, h15, rfl, h15, rfl, h15, rfl, rfl, rfl, rfl, rfl, trivial⟩
theorem sc_n_wn3 (s : Int) (c : Int) (g : Int) (a : Bool) (l : Nat) (cs : List AV) (h0 : (iltB (Int.ofNat 600) (Int.ofNat l)) = false) (h1 : (kept (rightC s c)) = false) (h2 : (kept !rightC s c) = true) (h3 : (AV.plainL cs) = true) (h4 : (u8L cs) = true) (h5 : (cs.length.beq l) = true) (h6 : (kept (isCB (bytesL (rowCut (kept (ofBytes (padB 512 (List.take 512 (bytesL cs))))) 0 512)))) = false) (h7 : (AV.plainL (kept (ofBytes (padB 512 (List.take 512 (bytesL cs)))))) = true) (h8 : (u8L (rowCut (kept (ofBytes (padB 512 (List.take 512 (bytesL cs))))) 0 512)) = true) (h9 : ((rowCut (kept (ofBytes (padB 512 (List.take 512 (bytesL cs))))) 0 512).length.beq 512) = true) (h10 : (kept !isCB (bytesL (rowCut (kept (ofBytes (padB 512 (List.take 512 (bytesL cs))))) 0 512))) = true) (h11 : (Nat.ble 3 (kept (ofBytes (padB 512 (List.take 512 (bytesL cs))))).length) = true) (h12 : (AV.isInt IntKind.u8 ((listAt (kept (ofBytes (padB 512 (List.take 512 (bytesL cs))))) 2).getD AV.undef)) = true) (h13 : (Nat.ble 4 (kept (ofBytes (padB 512 (List.take 512 (bytesL cs))))).length) = true) (h14 : (AV.isInt IntKind.u8 ((listAt (kept (ofBytes (padB 512 (List.take 512 (bytesL cs))))) 3).getD AV.undef)) = true) (h15 : ((bytesOf (rowCut (kept (ofBytes (padB 512 (List.take 512 (bytesL cs))))) 0 512)).isSome) = true) (h16 : (kept (rightC ((listAt (kept (ofBytes (padB 512 (List.take 512 (bytesL cs))))) 2).getD AV.undef).intOf ((listAt (kept (ofBytes (padB 512 (List.take 512 (bytesL cs))))) 3).getD AV.undef).intOf)) = false) (h17 : (kept !rightC ((listAt (kept (ofBytes (padB 512 (List.take 512 (bytesL cs))))) 2).getD AV.undef).intOf ((listAt (kept (ofBytes (padB 512 (List.take 512 (bytesL cs))))) 3).getD AV.undef).intOf) = true) :
    ∃ h', aCall C6c 60 (Tgt.fn 10) [AV.int IntKind.u8 s, AV.int IntKind.u8 c, AV.int IntKind.u64 g, AV.fsl a l cs, AV.bool true] H0 = some (AV.bool !bytesEq [] ((bytesOf (rowCut (kept (ofBytes (padB 512 (List.take 512 (bytesL cs))))) 0 512)).getD []), h') ∧ [].map h'.get = [] :=
  call_runT (q := (oc 4 (.z :: (oc 10 (.z :: (.y :: (.z :: (.y :: (oc 17 (.y :: (.y :: (.y :: (.z :: (oc 1 (.y :: (.y :: (.y :: (.y :: (oc 31 (.y :: (.y :: (oc 6 (.y :: (.y :: (oc 4 (.y :: (oc 2 (.y :: (.y :: (.y :: (oc 2 (.z :: (.y :: (oc 49 (.y :: (.y :: (.y :: (oc 1 (.y :: (.y :: (.y :: (oc 12 (.y :: (.y :: (.y :: (oc 1 (.y :: (.y :: (.y :: (oc 8 (.y :: (.y :: (oc 1 (.y :: (.y :: (oc 1 (.y :: (.y :: (oc 3 (.y :: (oc 2 (.y :: (oc 1 (.y :: (.y :: []))))))))))))))))))))))))))))))))))))))))))))))))))))))))))))))))) (c := (Cnd.tst _ false :: Cnd.tst _ false :: Cnd.tst _ true :: Cnd.tst _ false :: Cnd.tst _ true :: Cnd.tst _ true :: Cnd.tst _ true :: Cnd.tst _ true :: Cnd.tst _ false :: Cnd.tst _ true :: Cnd.tst _ true :: Cnd.tst _ true :: Cnd.tst _ true :: Cnd.tst _ true :: Cnd.tst _ true :: Cnd.tst _ true :: Cnd.tst _ true :: Cnd.tst _ true :: Cnd.tst _ true :: Cnd.tst _ true :: Cnd.tst _ true :: Cnd.tst _ false :: Cnd.tst _ true :: Cnd.tst _ true :: Cnd.tst _ true :: Cnd.same (AV.int IntKind.u8 ((listAt (kept (ofBytes (padB 512 (List.take 512 (bytesL cs))))) 2).getD AV.undef).intOf) (AV.int IntKind.u8 ((listAt (kept (ofBytes (padB 512 (List.take 512 (bytesL cs))))) 2).getD AV.undef).intOf) :: Cnd.tst _ true :: Cnd.tst _ true :: Cnd.same (AV.int IntKind.u8 ((listAt (kept (ofBytes (padB 512 (List.take 512 (bytesL cs))))) 2).getD AV.undef).intOf) (AV.int IntKind.u8 ((listAt (kept (ofBytes (padB 512 (List.take 512 (bytesL cs))))) 2).getD AV.undef).intOf) :: Cnd.tst _ true :: Cnd.tst _ true :: Cnd.same (AV.int IntKind.u8 ((listAt (kept (ofBytes (padB 512 (List.take 512 (bytesL cs))))) 3).getD AV.undef).intOf) (AV.int IntKind.u8 ((listAt (kept (ofBytes (padB 512 (List.take 512 (bytesL cs))))) 3).getD AV.undef).intOf) :: Cnd.tst _ true :: Cnd.tst _ true :: Cnd.same (AV.int IntKind.u8 ((listAt (kept (ofBytes (padB 512 (List.take 512 (bytesL cs))))) 3).getD AV.undef).intOf) (AV.int IntKind.u8 ((listAt (kept (ofBytes (padB 512 (List.take 512 (bytesL cs))))) 3).getD AV.undef).intOf) :: Cnd.tst _ true :: Cnd.same (AV.str ((bytesOf (rowCut (kept (ofBytes (padB 512 (List.take 512 (bytesL cs))))) 0 512)).getD [])) (AV.str ((bytesOf (rowCut (kept (ofBytes (padB 512 (List.take 512 (bytesL cs))))) 0 512)).getD [])) :: Cnd.tst _ true :: Cnd.same (AV.str ((bytesOf (rowCut (kept (ofBytes (padB 512 (List.take 512 (bytesL cs))))) 0 512)).getD [])) (AV.str ((bytesOf (rowCut (kept (ofBytes (padB 512 (List.take 512 (bytesL cs))))) 0 512)).getD [])) :: Cnd.tst _ true :: Cnd.same (AV.str ((bytesOf (rowCut (kept (ofBytes (padB 512 (List.take 512 (bytesL cs))))) 0 512)).getD [])) (AV.str ((bytesOf (rowCut (kept (ofBytes (padB 512 (List.take 512 (bytesL cs))))) 0 512)).getD [])) :: Cnd.same (AV.bool !bytesEq [] ((bytesOf (rowCut (kept (ofBytes (padB 512 (List.take 512 (bytesL cs))))) 0 512)).getD [])) (AV.bool !bytesEq [] ((bytesOf (rowCut (kept (ofBytes (padB 512 (List.take 512 (bytesL cs))))) 0 512)).getD [])) :: Cnd.same (AV.bool !bytesEq [] ((bytesOf (rowCut (kept (ofBytes (padB 512 (List.take 512 (bytesL cs))))) 0 512)).getD [])) (AV.bool !bytesEq [] ((bytesOf (rowCut (kept (ofBytes (padB 512 (List.take 512 (bytesL cs))))) 0 512)).getD [])) :: Cnd.same (AV.bool !bytesEq [] ((bytesOf (rowCut (kept (ofBytes (padB 512 (List.take 512 (bytesL cs))))) 0 512)).getD [])) (AV.bool !bytesEq [] ((bytesOf (rowCut (kept (ofBytes (padB 512 (List.take 512 (bytesL cs))))) 0 512)).getD [])) :: Cnd.same (AV.bool !bytesEq [] ((bytesOf (rowCut (kept (ofBytes (padB 512 (List.take 512 (bytesL cs))))) 0 512)).getD [])) (AV.bool !bytesEq [] ((bytesOf (rowCut (kept (ofBytes (padB 512 (List.take 512 (bytesL cs))))) 0 512)).getD [])) :: [])) (by kernel_rfl) ⟨h0, h1, h2, h1, h2, h3, h4, h5, h6, h7, h8, h9, h10, h11, h12, h13, h14, h15, h7, h8, h9, h16, h17, h11, h12, rfl, h11, h12, rfl, h13, h14, rfl, h13, h14, rfl, h15, rfl, h15, rfl, h15, rfl, rfl, rfl, rfl, rfl, trivial⟩
theorem sc_long (s : Int) (c : Int) (g : Int) (a : Bool) (l : Nat) (cs : List AV) (w : Bool) (h0 : (iltB (Int.ofNat 600) (Int.ofNat l)) = true) :
    ∃ h', aCall C6c 60 (Tgt.fn 10) [AV.int IntKind.u8 s, AV.int IntKind.u8 c, AV.int IntKind.u64 g, AV.fsl a l cs, AV.bool w] H0 = some (AV.bool true, h') ∧ [].map h'.get = [] :=
  call_runT (q := (oc 4 (.y :: []))) (c := (Cnd.tst _ true :: [])) (by kernel_rfl) ⟨h0, trivial⟩
end Go.Proofs.Ytecncappdnhbaaa
end
end
