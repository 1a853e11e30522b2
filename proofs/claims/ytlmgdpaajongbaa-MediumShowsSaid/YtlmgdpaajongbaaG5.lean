/- Texts of the abstract machine and of the laws, merged. -/
import Derived.Test.YtlmgdpaajongbaaG4
set_option autoImplicit false
set_option linter.unusedVariables false
set_option linter.unusedSimpArgs false
set_option linter.unusedSectionVars false
set_option maxRecDepth 100000
section
noncomputable section
namespace Go.Ab
namespace M
def okP (dn : Bool) (n : Nat) (i x : Int) : Bool := !dn && !(iltB i (Int.ofNat 0)) && !(ileB (Int.ofNat n) i) && !(iltB x (Int.ofNat 0))
def erP (dn : Bool) (n : Nat) (i x : Int) : Int := if dn then Int.ofNat 9 else if iltB i (Int.ofNat 0) then Int.ofNat 2 else if ileB (Int.ofNat n) i then Int.ofNat 2 else if iltB x (Int.ofNat 0) then Int.ofNat 3 else Int.ofNat 0
def erR (dn : Bool) (n : Nat) (ls ks : List AV) (i : Int) : Int := if dn then Int.ofNat 9 else if iltB i (Int.ofNat 0) then Int.ofNat 2 else if ileB (Int.ofNat n) i then Int.ofNat 2 else if hasW ks i then Int.ofNat 0 else if lostL ls i then Int.ofNat 10 else Int.ofNat 0
def stR (dn : Bool) (n : Nat) (ls ks : List AV) (i : Int) : List UInt8 := if dn then [] else if iltB i (Int.ofNat 0) then [] else if ileB (Int.ofNat n) i then [] else if hasW ks i then bytesL (atW ks i) else if lostL ls i then [] else bytesL (atL ls i)
def secA (x : Int) : List AV := ofBytes (secB x 512)
end M
open M
theorem hasW_nil (i : Int) : hasW [] i = false := rfl
theorem atW_bytes (ks : List AV) (i : Int) : atW ks i = ofBytes (bytesL (atW ks i)) := by unfold atW; rw [bytesL_ofBytes]
theorem atL_bytes (ks : List AV) (i : Int) : atL ks i = ofBytes (bytesL (atL ks i)) := by unfold atL; rw [bytesL_ofBytes]
theorem atL_len {ls : List AV} {i : Int} (h : isL ls = true) : (bytesL (atL ls i)).length = 512 := by
  obtain ⟨l, rfl, hl⟩ := isL_iff.1 h
  unfold atL
  rw [decL_encL, bytesL_ofBytes]
  cases hx : l[i.toNat]? with
  | none => exact List.length_replicate
  | some x =>
    obtain ⟨o, b⟩ := x
    cases o with
    | none => exact List.length_replicate
    | some d => exact hl _ (List.mem_of_getElem? hx) d rfl
theorem lastI_lt (w : WL) (i : Int) : ∀ (n j : Nat), lastI w i n = some j → j < n ∧ j < w.length ∧ (w[j]?.map (·.1)) = some i
  | 0, j, h => by cases h
  | n + 1, j, h => by
    change (if (w[n]?.map (·.1)) = some i then some n else lastI w i n) = some j at h
    split at h
    · rename_i h2
      injection h with h; subst h
      refine ⟨Nat.lt_succ_self _, ?_, h2⟩
      cases hx : w[n]? with
      | none => rw [hx] at h2; cases h2
      | some x => exact (List.getElem?_eq_some_iff.1 hx).1
    · obtain ⟨h1, h2, h3⟩ := lastI_lt w i n j h
      exact ⟨by omega, h2, h3⟩
theorem atW_len {n : Nat} {ks : List AV} {i : Int} (h : isW n ks = true) (h2 : hasW ks i = true) : (bytesL (atW ks i)).length = 512 := by
  obtain ⟨w, rfl, hw⟩ := isW_iff.1 h
  unfold hasW at h2
  unfold atW idxW
  rw [decW_encW] at h2 ⊢
  cases hx : lastX w i with
  | none => rw [hx] at h2; cases h2
  | some j =>
    obtain ⟨_, hj, _⟩ := lastI_lt w i _ _ hx
    simp only [Option.getD_some]
    rw [List.getElem?_eq_getElem hj, bytesL_ofBytes]
    exact (hw _ (List.getElem_mem hj)).2.2
theorem secA_plain (x : Int) : AV.plainL (secA x) = true := ofBytes_plainM _
theorem xorB_plain (cs : List AV) : AV.plainL (xorB cs) = true := ofBytes_plainM _
end Go.Ab
namespace Go.Proofs.Ytlmgdpaajongbaa
open Go.Ab.M Go.Ab Go
def cpNM (us : List AV) (bs : List Blk) : DT (List Bool × AV × List Blk) := match us, bs with
  | [.ptr (some (0, 0)), .ptr none], [.cells true 145 4 [.slice (some (1, 0)) n cc, .slice none 0 (some 0), .bool dn, .ptr none], .cells true 151 n' ls] => .leaf ([isL ls, Nat.beq ls.length (n * 2), Nat.beq n' (n * 2), Nat.ble 1 n, Nat.ble n 4096], .ptr (some (2, 0)), [.cells true 145 4 [.slice (some (1, 0)) n cc, .slice none 0 (some 0), .bool dn, .ptr none], .cells true 151 (n * 2) ls, .cells true 145 4 [.slice (some (3, 0)) n none, .slice none 0 (some 0), .bool dn, .ptr none], .cells true 151 (n * 2) ls])
  | _, _ => .no
theorem cpN_w (cc : Option Nat) (n : Nat) (n' : Nat) (dn : Bool) (ls : List AV) (E : AV → List Blk → Prop) (h :
    AV.plainL ls ∧ AV.plainL ls ∧ n'.beq (n * 2) ∧ ls.length.beq (n * 2) ∧ Nat.ble 1 n ∧ n.ble 100000 ∧ AV.plainL ls ∧ AV.plainL ls ∧ Sc (blockOf Try.f85 0) ∧ Sm (AV.slice (some (1, 0)) n cc) ∧ Sm (AV.bool dn) ∧ Sm (AV.bool dn) ∧ Sm (AV.bool dn) ∧ Sm (AV.agg [.slice (some (2, 0)) n none, .slice none 0 (some 0), .bool dn, .ptr none]) ∧ Sc (blockOf Try.f24 0) ∧ AV.plainL ls ∧ AV.plainL ls ∧ AV.plainL ls ∧ AV.plainL ls ∧ isL ls ∧ eqv ls ls ∧ ls.length.beq (n * 2) ∧ (n * 2).beq (n * 2) ∧ (n * 2).beq (n * 2) ∧ n.beq n ∧ n.beq n ∧ n.ble 100000 ∧ AV.plainL ls ∧ AV.plainL ls ∧ AV.plainL ls ∧ AV.plainL ls ∧ E (AV.ptr (some (2, 0))) ([.cells true 145 4 [.slice (some (1, 0)) n cc, .slice none 0 (some 0), .bool dn, .ptr none], .cells true 151 (n * 2) ls, .cells true 145 4 [.slice (some (3, 0)) n none, .slice none 0 (some 0), .bool dn, .ptr none], .cells true 151 (n * 2) ls])) :
    ∃ q, zcallS tys fns KM11 60 24 [] [.ptr (some (0, 0)), .ptr none] [.cells true 145 4 [.slice (some (1, 0)) n cc, .slice none 0 (some 0), .bool dn, .ptr none], .cells true 151 n' ls] q (fun x _ => E x.1 x.2) := wp_of (qN [18, 0, 5, 0, 0, 0, 0, 0, 6, 0, 4, 0, 17, 0, 14, 0, 6, 0, 6, 0, 4, 0, 19, 0, 4, 0, 8, 0, 4, 0, 0, 0, 0, 0, 0, 0, 0, 4, 0, 9, 0, 4, 0, 9, 0, 6, 0, 3]) (by kernel_rfl) h
theorem cpN_ok : ZSum.Sound Try.prog tys (flOf tys) 24 ⟨[], cpNM⟩ := by
  refine ZSum.wp (cxZ cx_goes) allM11 60 fun us bs c v bs' hm hc hin => ?_
  simp only [cpNM] at hm
  split at hm
  · rename_i n cc dn n' ls
    obtain ⟨rfl, rfl, rfl⟩ := some4 hm
    simp only [allTrue_cons, nbeq_iff, nble_iff] at hc
    obtain ⟨c1, c2, rfl, c8, c3, _⟩ := hc
    have p1 := zin_plain hin 1 rfl (by kernel_rfl)
    refine cpN_w cc n (n * 2) dn ls _ ?_
    and_intros
    all_goals with_reducible first
        | assumption
        | exact secA_plain _
        | exact ofBytes_plainM _
        | exact u8L_ofBytes _
        | exact xorB_plain _
        | exact pushW_plain _ _ _
        | exact flushL_plain _ _
        | exact atW_plain _ _
        | exact atL_plain _ _
        | exact eqv_self _
        | exact Sm_i _
        | exact Sc_i _
        | exact nble_iff.2 (by omega)
        | exact nbeq_iff.2 rfl
        | exact nbeq_iff.2 (by omega)
        | exact nbeq_iff.2 (by rw [ofBytes_length, secB_len])
        | rfl
  · cases hm
def cpKM (us : List AV) (bs : List Blk) : DT (List Bool × AV × List Blk) := match us, bs with
  | [.ptr (some (0, 0)), .ptr none], [.cells true 145 4 [.slice (some (1, 0)) n cc, .slice (some (2, 0)) k none, .bool dn, .ptr none], .cells true 151 n' ls, .cells true 48 k' ks] => .leaf ([isL ls, Nat.beq ls.length (n * 2), Nat.beq n' (n * 2), Nat.ble 1 n, Nat.ble n 4096, isW n ks, Nat.beq ks.length (k * 2), Nat.beq k' (k * 2), Nat.ble k 100000, Nat.ble 1 k], .ptr (some (3, 0)), [.cells true 145 4 [.slice (some (1, 0)) n cc, .slice (some (2, 0)) k none, .bool dn, .ptr none], .cells true 151 (n * 2) ls, .cells true 48 (k * 2) ks, .cells true 145 4 [.slice (some (4, 0)) n none, .slice (some (5, 0)) k none, .bool dn, .ptr none], .cells true 151 (n * 2) ls, .cells true 48 (k * 2) ks])
  | _, _ => .no
theorem cpK_w (cc : Option Nat) (n : Nat) (n' : Nat) (k : Nat) (k' : Nat) (dn : Bool) (ls : List AV) (ks : List AV) (E : AV → List Blk → Prop) (h :
    AV.plainL ls ∧ AV.plainL ls ∧ n'.beq (n * 2) ∧ ls.length.beq (n * 2) ∧ Nat.ble 1 n ∧ n.ble 100000 ∧ AV.plainL ls ∧ AV.plainL ls ∧ Sc (blockOf Try.f85 0) ∧ AV.plainL ks ∧ AV.plainL ks ∧ isW 4096 ks ∧ ks.length.beq (k * 2) ∧ k'.beq (k * 2) ∧ k.beq k ∧ Nat.ble 1 k ∧ k.ble 100000 ∧ AV.plainL ks ∧ AV.plainL ks ∧ Sm (AV.slice (some (1, 0)) n cc) ∧ Sm (AV.slice (some (2, 0)) k none) ∧ Sm (AV.slice (some (2, 0)) k none) ∧ Sm (AV.bool dn) ∧ Sm (AV.bool dn) ∧ Sm (AV.bool dn) ∧ Sm (AV.agg [.slice (some (3, 0)) n none, .slice (some (4, 0)) k none, .bool dn, .ptr none]) ∧ Sc (blockOf Try.f24 0) ∧ AV.plainL ls ∧ AV.plainL ls ∧ AV.plainL ks ∧ AV.plainL ls ∧ AV.plainL ls ∧ AV.plainL ks ∧ isL ls ∧ eqv ls ls ∧ ls.length.beq (n * 2) ∧ (n * 2).beq (n * 2) ∧ (n * 2).beq (n * 2) ∧ n.beq n ∧ n.beq n ∧ n.ble 100000 ∧ AV.plainL ls ∧ AV.plainL ls ∧ AV.plainL ks ∧ AV.plainL ls ∧ AV.plainL ks ∧ AV.plainL ls ∧ AV.plainL ks ∧ E (AV.ptr (some (3, 0))) ([.cells true 145 4 [.slice (some (1, 0)) n cc, .slice (some (2, 0)) k none, .bool dn, .ptr none], .cells true 151 (n * 2) ls, .cells true 48 (k * 2) ks, .cells true 145 4 [.slice (some (4, 0)) n none, .slice (some (5, 0)) k none, .bool dn, .ptr none], .cells true 151 (n * 2) ls, .cells true 48 (k * 2) ks])) :
    ∃ q, zcallS tys fns KM11 60 24 [] [.ptr (some (0, 0)), .ptr none] [.cells true 145 4 [.slice (some (1, 0)) n cc, .slice (some (2, 0)) k none, .bool dn, .ptr none], .cells true 151 n' ls, .cells true 48 k' ks] q (fun x _ => E x.1 x.2) := wp_of (qN [18, 0, 5, 0, 0, 0, 0, 0, 6, 0, 4, 0, 9, 0, 5, 0, 0, 0, 0, 0, 4, 0, 0, 7, 0, 4, 0, 14, 0, 6, 0, 6, 0, 6, 0, 6, 0, 6, 0, 4, 0, 22, 0, 4, 0, 4, 0, 9, 0, 4, 0, 4, 0, 0, 0, 0, 0, 0, 0, 0, 4, 0, 10, 0, 4, 0, 4, 0, 10, 0, 4, 0, 7, 0, 4, 0, 3]) (by kernel_rfl) h
theorem cpK_ok : ZSum.Sound Try.prog tys (flOf tys) 24 ⟨[], cpKM⟩ := by
  refine ZSum.wp (cxZ cx_goes) allM11 60 fun us bs c v bs' hm hc hin => ?_
  simp only [cpKM] at hm
  split at hm
  · rename_i n cc k dn n' ls k' ks
    obtain ⟨rfl, rfl, rfl⟩ := some4 hm
    simp only [allTrue_cons, nbeq_iff, nble_iff] at hc
    obtain ⟨c1, c2, rfl, c8, c3, c4, c5, rfl, c6, c7, _⟩ := hc
    have p1 := zin_plain hin 1 rfl (by kernel_rfl)
    have p2 := zin_plain hin 2 rfl (by kernel_rfl)
    have c9 := isW_up c4 c3
    refine cpK_w cc n (n * 2) k (k * 2) dn ls ks _ ?_
    and_intros
    all_goals with_reducible first
        | assumption
        | exact secA_plain _
        | exact ofBytes_plainM _
        | exact u8L_ofBytes _
        | exact xorB_plain _
        | exact pushW_plain _ _ _
        | exact flushL_plain _ _
        | exact atW_plain _ _
        | exact atL_plain _ _
        | exact eqv_self _
        | exact Sm_i _
        | exact Sc_i _
        | exact nble_iff.2 (by omega)
        | exact nbeq_iff.2 rfl
        | exact nbeq_iff.2 (by omega)
        | exact nbeq_iff.2 (by rw [ofBytes_length, secB_len])
        | rfl
  · cases hm
theorem few_w (nl : Bool) (n : Nat) (cs : List AV) (E : AV → Prop) (h :
    Sc (blockOf Try.f15 0) ∧ (fewL cs → AV.plainL cs ∧ AV.plainL cs ∧ AV.plainL cs ∧ AV.plainL cs ∧ isA cs ∧ AV.plainL cs ∧ cs.length.beq (n * 4) ∧ n.beq n ∧ n.ble 9223372036854775807 ∧ AV.plainL cs ∧ AV.plainL cs ∧ E (AV.bool (ileB (Int.ofNat n) (Int.ofNat 60)))) ∧ (fewL cs = false → AV.plainL cs ∧ AV.plainL cs ∧ AV.plainL cs ∧ AV.plainL cs ∧ isA cs ∧ AV.plainL cs ∧ cs.length.beq (n * 4) ∧ n.beq n ∧ n.ble 9223372036854775807 ∧ AV.plainL cs ∧ AV.plainL cs ∧ E (AV.bool false))) :
    ∃ q, fcallS tys fns KM11 60 15 [.fsl nl n cs] q (fun x _ => E x) := wp_of (qN [2, 5, 0, 0, 0, 0, 0, 0, 0, 0, 4, 0, 4, 0, 0, 3, 5, 0, 0, 0, 0, 0, 0, 0, 0, 4, 0, 4, 0, 0, 3]) (by kernel_rfl) h
def fewR : FRowM := fun us => match us with
  | [.fsl nl n cs] => .leaf ([isA cs, AV.plainL cs, Nat.beq cs.length (n * 4), Nat.ble n 9223372036854775807], .bool (kept (fewL cs && Nat.ble n 60)))
  | _ => .no
theorem fewR_ok : FSum.Sound Try.prog tys 15 fewR := by
  refine FSum.wp (cxZ cx_goes) allM11 60 fun us c v hm hc => ?_
  unfold fewR at hm
  split at hm
  · rename_i nl n cs
    obtain ⟨rfl, rfl⟩ := some3 hm
    simp only [allTrue_cons, nbeq_iff, nble_iff] at hc
    obtain ⟨c1, c2, c3, c4, _⟩ := hc
    refine few_w nl n cs _ ⟨rfl, fun h => ?_, fun h => ?_⟩
    · refine ⟨c2, c2, c2, c2, c1, c2, nbeq_iff.2 c3, nbeq_iff.2 rfl, nble_iff.2 c4, c2, c2, ?_⟩
      rw [kept_eq, h]
      show AV.bool _ = AV.bool _
      congr 1
      rw [ileB_eq, nble, Bool.true_and]
      exact decide_eq_decide.2 (by show ((n : Int) ≤ 60) ↔ _; omega)
    · refine ⟨c2, c2, c2, c2, c1, c2, nbeq_iff.2 c3, nbeq_iff.2 rfl, nble_iff.2 c4, c2, c2, ?_⟩
      rw [kept_eq, h]; rfl
  · cases hm
def doNM (us : List AV) (bs : List Blk) : DT (List Bool × AV × List Blk) := match us, bs with
  | [.ptr (some (0, 0)), .ptr none, .agg [.int .i64 kd, .int .i64 i, .int .i64 x, .fsl kn kl kc]], [.cells true 145 4 [.slice (some (1, 0)) n cc, .slice none 0 (some 0), .bool dn, .ptr none], .cells true 151 n' ls] =>
    .node (ieqB kd (Int.ofNat 0)) (.node (okP dn n i x) (.leaf ([isL ls, Nat.beq ls.length (n * 2), Nat.beq n' (n * 2), Nat.ble 1 n, Nat.ble n 4096], .tuple [.str [], .int .i64 (Int.ofNat 0)], [.cells true 145 4 [.slice (some (1, 0)) n cc, .slice (some (2, 0)) 1 none, .bool dn, .ptr none], .cells true 151 (n * 2) ls, .cells true 48 2 (kept (pushW [] i (secA x)))])) (.leaf ([isL ls, Nat.beq ls.length (n * 2), Nat.beq n' (n * 2), Nat.ble 1 n, Nat.ble n 4096], .tuple [.str [], .int .i64 (kept (erP dn n i x))], [.cells true 145 4 [.slice (some (1, 0)) n cc, .slice none 0 (some 0), .bool dn, .ptr none], .cells true 151 (n * 2) ls])))
      (.node (ieqB kd (Int.ofNat 1)) (.leaf ([isL ls, Nat.beq ls.length (n * 2), Nat.beq n' (n * 2), Nat.ble 1 n, Nat.ble n 4096], .tuple [.str (kept (stR dn n ls [] i)), .int .i64 (kept (erR dn n ls [] i))], [.cells true 145 4 [.slice (some (1, 0)) n cc, .slice none 0 (some 0), .bool dn, .ptr none], .cells true 151 (n * 2) ls]))
      (.node (ieqB kd (Int.ofNat 2)) (.node dn (.leaf ([isL ls, Nat.beq ls.length (n * 2), Nat.beq n' (n * 2), Nat.ble 1 n, Nat.ble n 4096], .tuple [.str [], .int .i64 (Int.ofNat 9)], [.cells true 145 4 [.slice (some (1, 0)) n cc, .slice none 0 (some 0), .bool dn, .ptr none], .cells true 151 (n * 2) ls])) (.leaf ([isL ls, Nat.beq ls.length (n * 2), Nat.beq n' (n * 2), Nat.ble 1 n, Nat.ble n 4096], .tuple [.str [], .int .i64 (Int.ofNat 0)], [.cells true 145 4 [.slice (some (1, 0)) n cc, .slice none 0 (some 0), .bool dn, .ptr none], .cells true 151 (n * 2) ls]))) .no))
  | _, _ => .no
theorem do0N_w (cc : Option Nat) (i : Int) (x : Int) (kn : Bool) (kl : Nat) (kc : List AV) (n : Nat) (n' : Nat) (dn : Bool) (ls : List AV) (E : AV → List Blk → Prop) (h :
    (iltB x (Int.ofNat 0) → (dn → AV.plainL (kept (ofBytes (secB x 511))) ∧ AV.plainL ls ∧ AV.plainL (kept (ofBytes (secB x 511))) ∧ AV.plainL ls ∧ AV.plainL (kept (ofBytes (secB x 511))) ∧ AV.plainL ls ∧ Sc (blockOf Try.f17 1) ∧ AV.plainL (kept (ofBytes (secB x 511))) ∧ AV.plainL (kept (ofBytes (secB x 511))) ∧ u8L (kept (ofBytes (secB x 511))) ∧ (kept (ofBytes (secB x 511))).length.beq 511 ∧ AV.plainL (kept (xorB (kept (ofBytes (secB x 511))))) ∧ AV.plainL ls ∧ E (AV.tuple [.str [], .int .i64 (Int.ofNat 9)]) ([.cells true 145 4 [.slice (some (1, 0)) n cc, .slice none 0 (some 0), .bool dn, .ptr none], .cells true 151 n' ls])) ∧ (dn = false → (iltB i (Int.ofNat 0) → AV.plainL (kept (ofBytes (secB x 511))) ∧ AV.plainL ls ∧ AV.plainL (kept (ofBytes (secB x 511))) ∧ AV.plainL ls ∧ AV.plainL (kept (ofBytes (secB x 511))) ∧ AV.plainL ls ∧ Sc (blockOf Try.f17 1) ∧ AV.plainL (kept (ofBytes (secB x 511))) ∧ AV.plainL (kept (ofBytes (secB x 511))) ∧ u8L (kept (ofBytes (secB x 511))) ∧ (kept (ofBytes (secB x 511))).length.beq 511 ∧ AV.plainL (kept (xorB (kept (ofBytes (secB x 511))))) ∧ AV.plainL ls ∧ E (AV.tuple [.str [], .int .i64 (Int.ofNat 2)]) ([.cells true 145 4 [.slice (some (1, 0)) n cc, .slice none 0 (some 0), .bool dn, .ptr none], .cells true 151 n' ls])) ∧ (iltB i (Int.ofNat 0) = false → (ileB (Int.ofNat n) i → AV.plainL (kept (ofBytes (secB x 511))) ∧ AV.plainL ls ∧ AV.plainL (kept (ofBytes (secB x 511))) ∧ AV.plainL ls ∧ AV.plainL (kept (ofBytes (secB x 511))) ∧ AV.plainL ls ∧ Sc (blockOf Try.f17 1) ∧ AV.plainL (kept (ofBytes (secB x 511))) ∧ AV.plainL (kept (ofBytes (secB x 511))) ∧ u8L (kept (ofBytes (secB x 511))) ∧ (kept (ofBytes (secB x 511))).length.beq 511 ∧ AV.plainL (kept (xorB (kept (ofBytes (secB x 511))))) ∧ AV.plainL ls ∧ E (AV.tuple [.str [], .int .i64 (Int.ofNat 2)]) ([.cells true 145 4 [.slice (some (1, 0)) n cc, .slice none 0 (some 0), .bool dn, .ptr none], .cells true 151 n' ls])) ∧ (ileB (Int.ofNat n) i = false → AV.plainL (kept (ofBytes (secB x 511))) ∧ AV.plainL ls ∧ AV.plainL (kept (ofBytes (secB x 511))) ∧ AV.plainL ls ∧ AV.plainL (kept (ofBytes (secB x 511))) ∧ AV.plainL ls ∧ Sc (blockOf Try.f17 1) ∧ AV.plainL (kept (ofBytes (secB x 511))) ∧ AV.plainL (kept (ofBytes (secB x 511))) ∧ u8L (kept (ofBytes (secB x 511))) ∧ (kept (ofBytes (secB x 511))).length.beq 511 ∧ AV.plainL (kept (xorB (kept (ofBytes (secB x 511))))) ∧ AV.plainL ls ∧ E (AV.tuple [.str [], .int .i64 (Int.ofNat 3)]) ([.cells true 145 4 [.slice (some (1, 0)) n cc, .slice none 0 (some 0), .bool dn, .ptr none], .cells true 151 n' ls]))))) ∧ (iltB x (Int.ofNat 0) = false → (dn → AV.plainL (kept (ofBytes (secB x 512))) ∧ AV.plainL ls ∧ AV.plainL (kept (ofBytes (secB x 512))) ∧ AV.plainL ls ∧ AV.plainL (kept (ofBytes (secB x 512))) ∧ AV.plainL ls ∧ Sc (blockOf Try.f17 1) ∧ AV.plainL (kept (ofBytes (secB x 512))) ∧ AV.plainL (kept (ofBytes (secB x 512))) ∧ u8L (kept (ofBytes (secB x 512))) ∧ (kept (ofBytes (secB x 512))).length.beq 512 ∧ AV.plainL (kept (xorB (kept (ofBytes (secB x 512))))) ∧ AV.plainL ls ∧ E (AV.tuple [.str [], .int .i64 (Int.ofNat 9)]) ([.cells true 145 4 [.slice (some (1, 0)) n cc, .slice none 0 (some 0), .bool dn, .ptr none], .cells true 151 n' ls])) ∧ (dn = false → (iltB i (Int.ofNat 0) → AV.plainL (kept (ofBytes (secB x 512))) ∧ AV.plainL ls ∧ AV.plainL (kept (ofBytes (secB x 512))) ∧ AV.plainL ls ∧ AV.plainL (kept (ofBytes (secB x 512))) ∧ AV.plainL ls ∧ Sc (blockOf Try.f17 1) ∧ AV.plainL (kept (ofBytes (secB x 512))) ∧ AV.plainL (kept (ofBytes (secB x 512))) ∧ u8L (kept (ofBytes (secB x 512))) ∧ (kept (ofBytes (secB x 512))).length.beq 512 ∧ AV.plainL (kept (xorB (kept (ofBytes (secB x 512))))) ∧ AV.plainL ls ∧ E (AV.tuple [.str [], .int .i64 (Int.ofNat 2)]) ([.cells true 145 4 [.slice (some (1, 0)) n cc, .slice none 0 (some 0), .bool dn, .ptr none], .cells true 151 n' ls])) ∧ (iltB i (Int.ofNat 0) = false → (ileB (Int.ofNat n) i → AV.plainL (kept (ofBytes (secB x 512))) ∧ AV.plainL ls ∧ AV.plainL (kept (ofBytes (secB x 512))) ∧ AV.plainL ls ∧ AV.plainL (kept (ofBytes (secB x 512))) ∧ AV.plainL ls ∧ Sc (blockOf Try.f17 1) ∧ AV.plainL (kept (ofBytes (secB x 512))) ∧ AV.plainL (kept (ofBytes (secB x 512))) ∧ u8L (kept (ofBytes (secB x 512))) ∧ (kept (ofBytes (secB x 512))).length.beq 512 ∧ AV.plainL (kept (xorB (kept (ofBytes (secB x 512))))) ∧ AV.plainL ls ∧ E (AV.tuple [.str [], .int .i64 (Int.ofNat 2)]) ([.cells true 145 4 [.slice (some (1, 0)) n cc, .slice none 0 (some 0), .bool dn, .ptr none], .cells true 151 n' ls])) ∧ (ileB (Int.ofNat n) i = false → AV.plainL (kept (ofBytes (secB x 512))) ∧ AV.plainL ls ∧ AV.plainL (kept (ofBytes (secB x 512))) ∧ AV.plainL ls ∧ u8L (kept (ofBytes (secB x 512))) ∧ (kept (ofBytes (secB x 512))).length.beq 512 ∧ AV.plainL (kept (ofBytes (secB x 512))) ∧ AV.plainL ls ∧ AV.plainL (kept (pushW [] i (kept (ofBytes (secB x 512))))) ∧ Sc (blockOf Try.f17 1) ∧ AV.plainL (kept (ofBytes (secB x 512))) ∧ AV.plainL (kept (ofBytes (secB x 512))) ∧ u8L (kept (ofBytes (secB x 512))) ∧ (kept (ofBytes (secB x 512))).length.beq 512 ∧ AV.plainL (kept (xorB (kept (ofBytes (secB x 512))))) ∧ AV.plainL ls ∧ AV.plainL (kept (pushW [] i (kept (ofBytes (secB x 512))))) ∧ E (AV.tuple [.str [], .int .i64 (Int.ofNat 0)]) ([.cells true 145 4 [.slice (some (1, 0)) n cc, .slice (some (2, 0)) 1 none, .bool dn, .ptr none], .cells true 151 n' ls, .cells true 48 2 (kept (pushW [] i (kept (ofBytes (secB x 512)))))])))))) :
    ∃ q, zcallS tys fns KM11 60 17 [] [.ptr (some (0, 0)), .ptr none, .agg [.int .i64 (Int.ofNat 0), .int .i64 i, .int .i64 x, .fsl kn kl kc]] [.cells true 145 4 [.slice (some (1, 0)) n cc, .slice none 0 (some 0), .bool dn, .ptr none], .cells true 151 n' ls] q (fun x _ => E x.1 x.2) := wp_of (qN [10, 2, 6, 2, 15, 0, 4, 0, 8, 0, 4, 0, 8, 0, 4, 0, 9, 0, 5, 0, 0, 0, 10, 0, 8, 0, 3, 2, 15, 0, 4, 0, 8, 0, 4, 0, 8, 0, 4, 0, 9, 0, 5, 0, 0, 0, 10, 0, 8, 0, 3, 2, 15, 0, 4, 0, 8, 0, 4, 0, 8, 0, 4, 0, 9, 0, 5, 0, 0, 0, 10, 0, 8, 0, 3, 16, 0, 4, 0, 8, 0, 4, 0, 8, 0, 4, 0, 9, 0, 5, 0, 0, 0, 10, 0, 8, 0, 3, 6, 2, 15, 0, 4, 0, 8, 0, 4, 0, 8, 0, 4, 0, 9, 0, 5, 0, 0, 0, 10, 0, 8, 0, 3, 2, 15, 0, 4, 0, 8, 0, 4, 0, 8, 0, 4, 0, 9, 0, 5, 0, 0, 0, 10, 0, 8, 0, 3, 2, 15, 0, 4, 0, 8, 0, 4, 0, 8, 0, 4, 0, 9, 0, 5, 0, 0, 0, 10, 0, 8, 0, 3, 16, 0, 4, 0, 8, 0, 4, 0, 4, 0, 0, 8, 0, 4, 0, 4, 0, 9, 0, 5, 0, 0, 0, 10, 0, 9, 0, 4, 0, 3]) (by kernel_rfl) h
theorem do1N_w (cc : Option Nat) (i : Int) (x : Int) (kn : Bool) (kl : Nat) (kc : List AV) (n : Nat) (n' : Nat) (dn : Bool) (ls : List AV) (E : AV → List Blk → Prop) (h :
    (dn → AV.plainL ls ∧ AV.plainL ls ∧ AV.plainL ls ∧ AV.plainL ls ∧ E (AV.tuple [.str [], .int .i64 (Int.ofNat 9)]) ([.cells true 145 4 [.slice (some (1, 0)) n cc, .slice none 0 (some 0), .bool dn, .ptr none], .cells true 151 n' ls])) ∧ (dn = false → (iltB i (Int.ofNat 0) → AV.plainL ls ∧ AV.plainL ls ∧ AV.plainL ls ∧ AV.plainL ls ∧ E (AV.tuple [.str [], .int .i64 (Int.ofNat 2)]) ([.cells true 145 4 [.slice (some (1, 0)) n cc, .slice none 0 (some 0), .bool dn, .ptr none], .cells true 151 n' ls])) ∧ (iltB i (Int.ofNat 0) = false → (ileB (Int.ofNat n) i → AV.plainL ls ∧ AV.plainL ls ∧ AV.plainL ls ∧ AV.plainL ls ∧ E (AV.tuple [.str [], .int .i64 (Int.ofNat 2)]) ([.cells true 145 4 [.slice (some (1, 0)) n cc, .slice none 0 (some 0), .bool dn, .ptr none], .cells true 151 n' ls])) ∧ (ileB (Int.ofNat n) i = false → (lostL ls i → AV.plainL ls ∧ AV.plainL ls ∧ isL ls ∧ ls.length.beq (n * 2) ∧ n'.beq (n * 2) ∧ AV.plainL ls ∧ AV.plainL ls ∧ E (AV.tuple [.str [], .int .i64 (Int.ofNat 10)]) ([.cells true 145 4 [.slice (some (1, 0)) n cc, .slice none 0 (some 0), .bool dn, .ptr none], .cells true 151 (n * 2) ls])) ∧ (lostL ls i = false → AV.plainL ls ∧ AV.plainL ls ∧ isL ls ∧ ls.length.beq (n * 2) ∧ n'.beq (n * 2) ∧ AV.plainL ls ∧ AV.plainL (kept (atL ls i)) ∧ (bytesOf (rowCut (kept (atL ls i)) 0 512)).isSome ∧ AV.plainL ls ∧ E (AV.tuple [.str ((bytesOf (rowCut (kept (atL ls i)) 0 512)).getD []), .int .i64 (Int.ofNat 0)]) ([.cells true 145 4 [.slice (some (1, 0)) n cc, .slice none 0 (some 0), .bool dn, .ptr none], .cells true 151 (n * 2) ls])))))) :
    ∃ q, zcallS tys fns KM11 60 17 [] [.ptr (some (0, 0)), .ptr none, .agg [.int .i64 (Int.ofNat 1), .int .i64 i, .int .i64 x, .fsl kn kl kc]] [.cells true 145 4 [.slice (some (1, 0)) n cc, .slice none 0 (some 0), .bool dn, .ptr none], .cells true 151 n' ls] q (fun x _ => E x.1 x.2) := wp_of (qN [11, 2, 12, 0, 7, 0, 7, 0, 8, 0, 3, 2, 12, 0, 7, 0, 7, 0, 8, 0, 3, 2, 12, 0, 7, 0, 7, 0, 8, 0, 3, 2, 12, 0, 7, 0, 0, 0, 0, 7, 0, 8, 0, 3, 12, 0, 7, 0, 0, 0, 0, 8, 0, 4, 0, 4, 0, 8, 0, 3]) (by kernel_rfl) h
theorem do2N_w (cc : Option Nat) (i : Int) (x : Int) (kn : Bool) (kl : Nat) (kc : List AV) (n : Nat) (n' : Nat) (dn : Bool) (ls : List AV) (E : AV → List Blk → Prop) (h :
    (dn → AV.plainL ls ∧ AV.plainL ls ∧ AV.plainL ls ∧ AV.plainL ls ∧ E (AV.tuple [.str [], .int .i64 (Int.ofNat 9)]) ([.cells true 145 4 [.slice (some (1, 0)) n cc, .slice none 0 (some 0), .bool dn, .ptr none], .cells true 151 n' ls])) ∧ (dn = false → AV.plainL ls ∧ AV.plainL ls ∧ AV.plainL ls ∧ AV.plainL ls ∧ E (AV.tuple [.str [], .int .i64 (Int.ofNat 0)]) ([.cells true 145 4 [.slice (some (1, 0)) n cc, .slice none 0 (some 0), .bool dn, .ptr none], .cells true 151 n' ls]))) :
    ∃ q, zcallS tys fns KM11 60 17 [] [.ptr (some (0, 0)), .ptr none, .agg [.int .i64 (Int.ofNat 2), .int .i64 i, .int .i64 x, .fsl kn kl kc]] [.cells true 145 4 [.slice (some (1, 0)) n cc, .slice none 0 (some 0), .bool dn, .ptr none], .cells true 151 n' ls] q (fun x _ => E x.1 x.2) := wp_of (qN [9, 2, 12, 0, 7, 0, 7, 0, 8, 0, 3, 12, 0, 7, 0, 7, 0, 8, 0, 3]) (by kernel_rfl) h
theorem doN_ok : ZSum.Sound Try.prog tys (flOf tys) 17 ⟨[], doNM⟩ := by
  refine ZSum.wp (cxZ cx_goes) allM11 60 fun us bs c v bs' hm hc hin => ?_
  simp only [doNM] at hm
  split at hm
  · rename_i kd i x kn kl kc n cc dn n' ls
    have p1 := zin_plain hin 1 rfl (by kernel_rfl)
    cases h0 : ieqB kd (Int.ofNat 0) with
    | true =>
      simp only [DT.m_node, h0, cb_true] at hm
      have hk : kd = Int.ofNat 0 := by rw [ieqB_eq, beq_iff_eq] at h0; exact h0
      subst hk
      have cs : allTrue [isL ls, Nat.beq ls.length (n * 2), Nat.beq n' (n * 2), Nat.ble 1 n, Nat.ble n 4096] = true := by
        cases ho : okP dn n i x <;> simp only [DT.m_node, DT.m_leaf, ho, cb_true, cb_false] at hm <;> (obtain ⟨rfl, _⟩ := some4 hm) <;> exact hc
      simp only [allTrue_cons, nbeq_iff, nble_iff] at cs
      obtain ⟨c1, c2, rfl, c8, c3, _⟩ := cs
      refine do0N_w cc i x kn kl kc n (n * 2) dn ls _ ?_
      simp only [kept_eq, secA] at hm ⊢
      refine ⟨fun hx => ⟨fun h1 => ?_, fun h1 => ⟨fun h2 => ?_, fun h2 => ⟨fun h3 => ?_, fun h3 => ?_⟩⟩⟩, fun hx => ⟨fun h1 => ?_, fun h1 => ⟨fun h2 => ?_, fun h2 => ⟨fun h3 => ?_, fun h3 => ?_⟩⟩⟩⟩
      all_goals
        first
          | (have ho : okP dn n i x = true := by simp only [okP, hx, h1, h2, h3]; rfl)
          | (have ho : okP dn n i x = false := by simp only [okP, hx, h1, h2, h3]; rfl)
          | (have ho : okP dn n i x = false := by simp only [okP, hx, h1, h2, Bool.and_false, Bool.false_and, Bool.not_true])
          | (have ho : okP dn n i x = false := by simp only [okP, hx, h1, Bool.and_false, Bool.false_and, Bool.not_true])
        simp only [DT.m_node, DT.m_leaf, ho, cb_true, cb_false] at hm
        obtain ⟨rfl, rfl, rfl⟩ := some4 hm
        and_intros
        all_goals with_reducible first
          | assumption
          | exact ofBytes_plainM _
          | exact u8L_ofBytes _
          | exact xorB_plain _
          | exact pushW_plain _ _ _
          | exact Sm_i _
          | exact Sc_i _
          | exact nble_iff.2 (by omega)
          | exact nbeq_iff.2 rfl
          | exact nbeq_iff.2 (by omega)
          | exact nbeq_iff.2 (by rw [ofBytes_length, secB_len])
          | rfl
          | (simp only [erP, h1, h2, h3, hx, if_true, Bool.false_eq_true, if_false]; done)
          | (simp only [erP, h1, h2, if_true, Bool.false_eq_true, if_false]; done)
          | (simp only [erP, h1, if_true]; done)
    | false =>
    cases h1 : ieqB kd (Int.ofNat 1) with
    | true =>
      simp only [DT.m_node, DT.m_leaf, h0, h1, cb_true, cb_false] at hm
      have hk : kd = Int.ofNat 1 := by rw [ieqB_eq, beq_iff_eq] at h1; exact h1
      subst hk
      obtain ⟨rfl, rfl, rfl⟩ := some4 hm
      simp only [allTrue_cons, nbeq_iff, nble_iff] at hc
      obtain ⟨c1, c2, rfl, c8, c3, _⟩ := hc
      refine do1N_w cc i x kn kl kc n (n * 2) dn ls _ ?_
      have eL := atL_bytes ls i
      have lL := atL_len (i := i) c1
      have rL : rowCut (atL ls i) 0 512 = atL ls i := rowCut_id _ _ (by rw [eL, ofBytes_length]; exact lL)
      have bL : bytesOf (atL ls i) = some (bytesL (atL ls i)) := by rw [eL, bytesOf_ofBytes, bytesL_ofBytes]
      simp only [kept_eq, rL, bL]
      refine ⟨fun h1 => ?_, fun h1 => ⟨fun h2 => ?_, fun h2 => ⟨fun h3 => ?_, fun h3 => ⟨fun h4 => ?_, fun h4 => ?_⟩⟩⟩⟩
      all_goals
        and_intros
        all_goals with_reducible first
          | assumption
          | exact atW_plain _ _
          | exact atL_plain _ _
          | exact Sm_i _
          | exact Sc_i _
          | exact nble_iff.2 (by omega)
          | exact nbeq_iff.2 rfl
          | exact nbeq_iff.2 (by omega)
          | exact Option.isSome_some
          | rfl
          | (simp only [erR, stR, hasW_nil, h1, h2, h3, h4, if_true, Bool.false_eq_true, if_false, Option.getD_some]; done)
          | (simp only [erR, stR, hasW_nil, h1, h2, h3, h4, if_true, Bool.false_eq_true, if_false, Option.getD_some]; done)
          | (simp only [erR, stR, h1, h2, h3, if_true, Bool.false_eq_true, if_false]; done)
          | (simp only [erR, stR, h1, h2, if_true, Bool.false_eq_true, if_false]; done)
          | (simp only [erR, stR, h1, if_true]; done)
    | false =>
    cases h2 : ieqB kd (Int.ofNat 2) with
    | true =>
      simp only [DT.m_node, h0, h1, h2, cb_true, cb_false] at hm
      have hk : kd = Int.ofNat 2 := by rw [ieqB_eq, beq_iff_eq] at h2; exact h2
      subst hk
      have cs : allTrue [isL ls, Nat.beq ls.length (n * 2), Nat.beq n' (n * 2), Nat.ble 1 n, Nat.ble n 4096] = true := by
        cases ho : dn <;> simp only [DT.m_node, DT.m_leaf, ho, cb_true, cb_false] at hm <;> (obtain ⟨rfl, _⟩ := some4 hm) <;> exact hc
      simp only [allTrue_cons, nbeq_iff, nble_iff] at cs
      obtain ⟨c1, c2, rfl, c8, c3, _⟩ := cs
      refine do2N_w cc i x kn kl kc n (n * 2) dn ls _ ?_
      (try simp only [kept_eq] at hm ⊢)
      refine ⟨fun h3 => ?_, fun h3 => ?_⟩
      all_goals
        simp only [DT.m_node, DT.m_leaf, h3, cb_true, cb_false] at hm
        obtain ⟨rfl, rfl, rfl⟩ := some4 hm
        rw [h3]
        and_intros
        all_goals with_reducible first
          | assumption
          | exact secA_plain _
          | exact ofBytes_plainM _
          | exact u8L_ofBytes _
          | exact xorB_plain _
          | exact pushW_plain _ _ _
          | exact flushL_plain _ _
          | exact atW_plain _ _
          | exact atL_plain _ _
          | exact eqv_self _
          | exact Sm_i _
          | exact Sc_i _
          | exact nble_iff.2 (by omega)
          | exact nbeq_iff.2 rfl
          | exact nbeq_iff.2 (by omega)
          | exact nbeq_iff.2 (by rw [ofBytes_length, secB_len])
          | rfl
    | false => simp only [DT.m_node, h0, h1, h2, cb_false, DT.m_no] at hm; cases hm
  · cases hm
def doKM (us : List AV) (bs : List Blk) : DT (List Bool × AV × List Blk) := match us, bs with
  | [.ptr (some (0, 0)), .ptr none, .agg [.int .i64 kd, .int .i64 i, .int .i64 x, .fsl kn kl kc]], [.cells true 145 4 [.slice (some (1, 0)) n cc, .slice (some (2, 0)) k none, .bool dn, .ptr none], .cells true 151 n' ls, .cells true 48 k' ks] =>
    .node (ieqB kd (Int.ofNat 0)) (.node (okP dn n i x) (.leaf ([isL ls, Nat.beq ls.length (n * 2), Nat.beq n' (n * 2), Nat.ble 1 n, Nat.ble n 4096, isW n ks, Nat.beq ks.length (k * 2), Nat.beq k' (k * 2), Nat.ble k 100000, Nat.ble 1 k], .tuple [.str [], .int .i64 (Int.ofNat 0)], [.cells true 145 4 [.slice (some (1, 0)) n cc, .slice (some (3, 0)) (k + 1) none, .bool dn, .ptr none], .cells true 151 (n * 2) ls, .dead, .cells true 48 ((k + 1) * 2) (kept (pushW ks i (secA x)))])) (.leaf ([isL ls, Nat.beq ls.length (n * 2), Nat.beq n' (n * 2), Nat.ble 1 n, Nat.ble n 4096, isW n ks, Nat.beq ks.length (k * 2), Nat.beq k' (k * 2), Nat.ble k 100000, Nat.ble 1 k], .tuple [.str [], .int .i64 (kept (erP dn n i x))], [.cells true 145 4 [.slice (some (1, 0)) n cc, .slice (some (2, 0)) k none, .bool dn, .ptr none], .cells true 151 (n * 2) ls, .cells true 48 (k * 2) ks])))
      (.node (ieqB kd (Int.ofNat 1)) (.leaf ([isL ls, Nat.beq ls.length (n * 2), Nat.beq n' (n * 2), Nat.ble 1 n, Nat.ble n 4096, isW n ks, Nat.beq ks.length (k * 2), Nat.beq k' (k * 2), Nat.ble k 100000, Nat.ble 1 k], .tuple [.str (kept (stR dn n ls ks i)), .int .i64 (kept (erR dn n ls ks i))], [.cells true 145 4 [.slice (some (1, 0)) n cc, .slice (some (2, 0)) k none, .bool dn, .ptr none], .cells true 151 (n * 2) ls, .cells true 48 (k * 2) ks]))
      (.node (ieqB kd (Int.ofNat 2)) (.node dn (.leaf ([isL ls, Nat.beq ls.length (n * 2), Nat.beq n' (n * 2), Nat.ble 1 n, Nat.ble n 4096, isW n ks, Nat.beq ks.length (k * 2), Nat.beq k' (k * 2), Nat.ble k 100000, Nat.ble 1 k], .tuple [.str [], .int .i64 (Int.ofNat 9)], [.cells true 145 4 [.slice (some (1, 0)) n cc, .slice (some (2, 0)) k none, .bool dn, .ptr none], .cells true 151 (n * 2) ls, .cells true 48 (k * 2) ks])) (.leaf ([isL ls, Nat.beq ls.length (n * 2), Nat.beq n' (n * 2), Nat.ble 1 n, Nat.ble n 4096, isW n ks, Nat.beq ks.length (k * 2), Nat.beq k' (k * 2), Nat.ble k 100000, Nat.ble 1 k], .tuple [.str [], .int .i64 (Int.ofNat 0)], [.cells true 145 4 [.slice (some (1, 0)) n cc, .slice none 0 (some 0), .bool dn, .ptr none], .cells true 151 (n * 2) (kept (flushL ls ks)), .cells true 48 (k * 2) ks]))) .no))
  | _, _ => .no
theorem do0K_w (cc : Option Nat) (i : Int) (x : Int) (kn : Bool) (kl : Nat) (kc : List AV) (n : Nat) (n' : Nat) (k : Nat) (k' : Nat) (dn : Bool) (ls : List AV) (ks : List AV) (E : AV → List Blk → Prop) (h :
    (iltB x (Int.ofNat 0) → (dn → AV.plainL (kept (ofBytes (secB x 511))) ∧ AV.plainL ls ∧ AV.plainL ks ∧ AV.plainL (kept (ofBytes (secB x 511))) ∧ AV.plainL ls ∧ AV.plainL ks ∧ AV.plainL (kept (ofBytes (secB x 511))) ∧ AV.plainL ls ∧ AV.plainL ks ∧ Sc (blockOf Try.f17 1) ∧ AV.plainL (kept (ofBytes (secB x 511))) ∧ AV.plainL (kept (ofBytes (secB x 511))) ∧ u8L (kept (ofBytes (secB x 511))) ∧ (kept (ofBytes (secB x 511))).length.beq 511 ∧ AV.plainL (kept (xorB (kept (ofBytes (secB x 511))))) ∧ AV.plainL ls ∧ AV.plainL ks ∧ E (AV.tuple [.str [], .int .i64 (Int.ofNat 9)]) ([.cells true 145 4 [.slice (some (1, 0)) n cc, .slice (some (2, 0)) k none, .bool dn, .ptr none], .cells true 151 n' ls, .cells true 48 k' ks])) ∧ (dn = false → (iltB i (Int.ofNat 0) → AV.plainL (kept (ofBytes (secB x 511))) ∧ AV.plainL ls ∧ AV.plainL ks ∧ AV.plainL (kept (ofBytes (secB x 511))) ∧ AV.plainL ls ∧ AV.plainL ks ∧ AV.plainL (kept (ofBytes (secB x 511))) ∧ AV.plainL ls ∧ AV.plainL ks ∧ Sc (blockOf Try.f17 1) ∧ AV.plainL (kept (ofBytes (secB x 511))) ∧ AV.plainL (kept (ofBytes (secB x 511))) ∧ u8L (kept (ofBytes (secB x 511))) ∧ (kept (ofBytes (secB x 511))).length.beq 511 ∧ AV.plainL (kept (xorB (kept (ofBytes (secB x 511))))) ∧ AV.plainL ls ∧ AV.plainL ks ∧ E (AV.tuple [.str [], .int .i64 (Int.ofNat 2)]) ([.cells true 145 4 [.slice (some (1, 0)) n cc, .slice (some (2, 0)) k none, .bool dn, .ptr none], .cells true 151 n' ls, .cells true 48 k' ks])) ∧ (iltB i (Int.ofNat 0) = false → (ileB (Int.ofNat n) i → AV.plainL (kept (ofBytes (secB x 511))) ∧ AV.plainL ls ∧ AV.plainL ks ∧ AV.plainL (kept (ofBytes (secB x 511))) ∧ AV.plainL ls ∧ AV.plainL ks ∧ AV.plainL (kept (ofBytes (secB x 511))) ∧ AV.plainL ls ∧ AV.plainL ks ∧ Sc (blockOf Try.f17 1) ∧ AV.plainL (kept (ofBytes (secB x 511))) ∧ AV.plainL (kept (ofBytes (secB x 511))) ∧ u8L (kept (ofBytes (secB x 511))) ∧ (kept (ofBytes (secB x 511))).length.beq 511 ∧ AV.plainL (kept (xorB (kept (ofBytes (secB x 511))))) ∧ AV.plainL ls ∧ AV.plainL ks ∧ E (AV.tuple [.str [], .int .i64 (Int.ofNat 2)]) ([.cells true 145 4 [.slice (some (1, 0)) n cc, .slice (some (2, 0)) k none, .bool dn, .ptr none], .cells true 151 n' ls, .cells true 48 k' ks])) ∧ (ileB (Int.ofNat n) i = false → AV.plainL (kept (ofBytes (secB x 511))) ∧ AV.plainL ls ∧ AV.plainL ks ∧ AV.plainL (kept (ofBytes (secB x 511))) ∧ AV.plainL ls ∧ AV.plainL ks ∧ AV.plainL (kept (ofBytes (secB x 511))) ∧ AV.plainL ls ∧ AV.plainL ks ∧ Sc (blockOf Try.f17 1) ∧ AV.plainL (kept (ofBytes (secB x 511))) ∧ AV.plainL (kept (ofBytes (secB x 511))) ∧ u8L (kept (ofBytes (secB x 511))) ∧ (kept (ofBytes (secB x 511))).length.beq 511 ∧ AV.plainL (kept (xorB (kept (ofBytes (secB x 511))))) ∧ AV.plainL ls ∧ AV.plainL ks ∧ E (AV.tuple [.str [], .int .i64 (Int.ofNat 3)]) ([.cells true 145 4 [.slice (some (1, 0)) n cc, .slice (some (2, 0)) k none, .bool dn, .ptr none], .cells true 151 n' ls, .cells true 48 k' ks]))))) ∧ (iltB x (Int.ofNat 0) = false → (dn → AV.plainL (kept (ofBytes (secB x 512))) ∧ AV.plainL ls ∧ AV.plainL ks ∧ AV.plainL (kept (ofBytes (secB x 512))) ∧ AV.plainL ls ∧ AV.plainL ks ∧ AV.plainL (kept (ofBytes (secB x 512))) ∧ AV.plainL ls ∧ AV.plainL ks ∧ Sc (blockOf Try.f17 1) ∧ AV.plainL (kept (ofBytes (secB x 512))) ∧ AV.plainL (kept (ofBytes (secB x 512))) ∧ u8L (kept (ofBytes (secB x 512))) ∧ (kept (ofBytes (secB x 512))).length.beq 512 ∧ AV.plainL (kept (xorB (kept (ofBytes (secB x 512))))) ∧ AV.plainL ls ∧ AV.plainL ks ∧ E (AV.tuple [.str [], .int .i64 (Int.ofNat 9)]) ([.cells true 145 4 [.slice (some (1, 0)) n cc, .slice (some (2, 0)) k none, .bool dn, .ptr none], .cells true 151 n' ls, .cells true 48 k' ks])) ∧ (dn = false → (iltB i (Int.ofNat 0) → AV.plainL (kept (ofBytes (secB x 512))) ∧ AV.plainL ls ∧ AV.plainL ks ∧ AV.plainL (kept (ofBytes (secB x 512))) ∧ AV.plainL ls ∧ AV.plainL ks ∧ AV.plainL (kept (ofBytes (secB x 512))) ∧ AV.plainL ls ∧ AV.plainL ks ∧ Sc (blockOf Try.f17 1) ∧ AV.plainL (kept (ofBytes (secB x 512))) ∧ AV.plainL (kept (ofBytes (secB x 512))) ∧ u8L (kept (ofBytes (secB x 512))) ∧ (kept (ofBytes (secB x 512))).length.beq 512 ∧ AV.plainL (kept (xorB (kept (ofBytes (secB x 512))))) ∧ AV.plainL ls ∧ AV.plainL ks ∧ E (AV.tuple [.str [], .int .i64 (Int.ofNat 2)]) ([.cells true 145 4 [.slice (some (1, 0)) n cc, .slice (some (2, 0)) k none, .bool dn, .ptr none], .cells true 151 n' ls, .cells true 48 k' ks])) ∧ (iltB i (Int.ofNat 0) = false → (ileB (Int.ofNat n) i → AV.plainL (kept (ofBytes (secB x 512))) ∧ AV.plainL ls ∧ AV.plainL ks ∧ AV.plainL (kept (ofBytes (secB x 512))) ∧ AV.plainL ls ∧ AV.plainL ks ∧ AV.plainL (kept (ofBytes (secB x 512))) ∧ AV.plainL ls ∧ AV.plainL ks ∧ Sc (blockOf Try.f17 1) ∧ AV.plainL (kept (ofBytes (secB x 512))) ∧ AV.plainL (kept (ofBytes (secB x 512))) ∧ u8L (kept (ofBytes (secB x 512))) ∧ (kept (ofBytes (secB x 512))).length.beq 512 ∧ AV.plainL (kept (xorB (kept (ofBytes (secB x 512))))) ∧ AV.plainL ls ∧ AV.plainL ks ∧ E (AV.tuple [.str [], .int .i64 (Int.ofNat 2)]) ([.cells true 145 4 [.slice (some (1, 0)) n cc, .slice (some (2, 0)) k none, .bool dn, .ptr none], .cells true 151 n' ls, .cells true 48 k' ks])) ∧ (ileB (Int.ofNat n) i = false → AV.plainL (kept (ofBytes (secB x 512))) ∧ AV.plainL ls ∧ AV.plainL ks ∧ AV.plainL (kept (ofBytes (secB x 512))) ∧ AV.plainL ls ∧ AV.plainL ks ∧ u8L (kept (ofBytes (secB x 512))) ∧ (kept (ofBytes (secB x 512))).length.beq 512 ∧ isW n ks ∧ ks.length.beq (k * 2) ∧ k'.beq (k * 2) ∧ k.ble 100000 ∧ AV.plainL (kept (ofBytes (secB x 512))) ∧ AV.plainL ls ∧ AV.plainL (kept (pushW ks i (kept (ofBytes (secB x 512))))) ∧ Sc (blockOf Try.f17 1) ∧ AV.plainL (kept (ofBytes (secB x 512))) ∧ AV.plainL (kept (ofBytes (secB x 512))) ∧ u8L (kept (ofBytes (secB x 512))) ∧ (kept (ofBytes (secB x 512))).length.beq 512 ∧ AV.plainL (kept (xorB (kept (ofBytes (secB x 512))))) ∧ AV.plainL ls ∧ AV.plainL (kept (pushW ks i (kept (ofBytes (secB x 512))))) ∧ E (AV.tuple [.str [], .int .i64 (Int.ofNat 0)]) ([.cells true 145 4 [.slice (some (1, 0)) n cc, .slice (some (3, 0)) (k + 1) none, .bool dn, .ptr none], .cells true 151 n' ls, Blk.dead, .cells true 48 ((k + 1) * 2) (kept (pushW ks i (kept (ofBytes (secB x 512)))))])))))) :
    ∃ q, zcallS tys fns KM11 60 17 [] [.ptr (some (0, 0)), .ptr none, .agg [.int .i64 (Int.ofNat 0), .int .i64 i, .int .i64 x, .fsl kn kl kc]] [.cells true 145 4 [.slice (some (1, 0)) n cc, .slice (some (2, 0)) k none, .bool dn, .ptr none], .cells true 151 n' ls, .cells true 48 k' ks] q (fun x _ => E x.1 x.2) := wp_of (qN [10, 2, 6, 2, 18, 0, 4, 0, 4, 0, 9, 0, 4, 0, 4, 0, 9, 0, 4, 0, 4, 0, 9, 0, 5, 0, 0, 0, 10, 0, 9, 0, 4, 0, 3, 2, 18, 0, 4, 0, 4, 0, 9, 0, 4, 0, 4, 0, 9, 0, 4, 0, 4, 0, 9, 0, 5, 0, 0, 0, 10, 0, 9, 0, 4, 0, 3, 2, 18, 0, 4, 0, 4, 0, 9, 0, 4, 0, 4, 0, 9, 0, 4, 0, 4, 0, 9, 0, 5, 0, 0, 0, 10, 0, 9, 0, 4, 0, 3, 19, 0, 4, 0, 4, 0, 9, 0, 4, 0, 4, 0, 9, 0, 4, 0, 4, 0, 9, 0, 5, 0, 0, 0, 10, 0, 9, 0, 4, 0, 3, 6, 2, 18, 0, 4, 0, 4, 0, 9, 0, 4, 0, 4, 0, 9, 0, 4, 0, 4, 0, 9, 0, 5, 0, 0, 0, 10, 0, 9, 0, 4, 0, 3, 2, 18, 0, 4, 0, 4, 0, 9, 0, 4, 0, 4, 0, 9, 0, 4, 0, 4, 0, 9, 0, 5, 0, 0, 0, 10, 0, 9, 0, 4, 0, 3, 2, 18, 0, 4, 0, 4, 0, 9, 0, 4, 0, 4, 0, 9, 0, 4, 0, 4, 0, 9, 0, 5, 0, 0, 0, 10, 0, 9, 0, 4, 0, 3, 19, 0, 4, 0, 4, 0, 9, 0, 4, 0, 4, 0, 4, 0, 0, 0, 0, 0, 0, 8, 0, 4, 0, 4, 0, 9, 0, 5, 0, 0, 0, 10, 0, 9, 0, 4, 0, 3]) (by kernel_rfl) h
theorem do1K_w (cc : Option Nat) (i : Int) (x : Int) (kn : Bool) (kl : Nat) (kc : List AV) (n : Nat) (n' : Nat) (k : Nat) (k' : Nat) (dn : Bool) (ls : List AV) (ks : List AV) (E : AV → List Blk → Prop) (h :
    (dn → AV.plainL ls ∧ AV.plainL ks ∧ AV.plainL ls ∧ AV.plainL ks ∧ AV.plainL ls ∧ AV.plainL ks ∧ AV.plainL ls ∧ AV.plainL ks ∧ E (AV.tuple [.str [], .int .i64 (Int.ofNat 9)]) ([.cells true 145 4 [.slice (some (1, 0)) n cc, .slice (some (2, 0)) k none, .bool dn, .ptr none], .cells true 151 n' ls, .cells true 48 k' ks])) ∧ (dn = false → (iltB i (Int.ofNat 0) → AV.plainL ls ∧ AV.plainL ks ∧ AV.plainL ls ∧ AV.plainL ks ∧ AV.plainL ls ∧ AV.plainL ks ∧ AV.plainL ls ∧ AV.plainL ks ∧ E (AV.tuple [.str [], .int .i64 (Int.ofNat 2)]) ([.cells true 145 4 [.slice (some (1, 0)) n cc, .slice (some (2, 0)) k none, .bool dn, .ptr none], .cells true 151 n' ls, .cells true 48 k' ks])) ∧ (iltB i (Int.ofNat 0) = false → (ileB (Int.ofNat n) i → AV.plainL ls ∧ AV.plainL ks ∧ AV.plainL ls ∧ AV.plainL ks ∧ AV.plainL ls ∧ AV.plainL ks ∧ AV.plainL ls ∧ AV.plainL ks ∧ E (AV.tuple [.str [], .int .i64 (Int.ofNat 2)]) ([.cells true 145 4 [.slice (some (1, 0)) n cc, .slice (some (2, 0)) k none, .bool dn, .ptr none], .cells true 151 n' ls, .cells true 48 k' ks])) ∧ (ileB (Int.ofNat n) i = false → (hasW ks i → AV.plainL ls ∧ AV.plainL ks ∧ AV.plainL ls ∧ AV.plainL ks ∧ n'.beq (n * 2) ∧ isW 4096 ks ∧ ks.length.beq (k * 2) ∧ k'.beq (k * 2) ∧ k.ble 100000 ∧ AV.plainL (kept (atW ks i)) ∧ AV.plainL ls ∧ AV.plainL ks ∧ (kept (atW ks i)).length.beq 512 ∧ (bytesOf (kept (atW ks i))).isSome ∧ AV.plainL ls ∧ AV.plainL ks ∧ E (AV.tuple [.str ((bytesOf (kept (atW ks i))).getD []), .int .i64 (Int.ofNat 0)]) ([.cells true 145 4 [.slice (some (1, 0)) n cc, .slice (some (2, 0)) k none, .bool dn, .ptr none], .cells true 151 (n * 2) ls, .cells true 48 (k * 2) ks])) ∧ (hasW ks i = false → (lostL ls i → AV.plainL ls ∧ AV.plainL ks ∧ AV.plainL ls ∧ AV.plainL ks ∧ isL ls ∧ ls.length.beq (n * 2) ∧ n'.beq (n * 2) ∧ isW 4096 ks ∧ ks.length.beq (k * 2) ∧ k'.beq (k * 2) ∧ k.ble 100000 ∧ AV.plainL ls ∧ AV.plainL ks ∧ AV.plainL ls ∧ AV.plainL ks ∧ E (AV.tuple [.str [], .int .i64 (Int.ofNat 10)]) ([.cells true 145 4 [.slice (some (1, 0)) n cc, .slice (some (2, 0)) k none, .bool dn, .ptr none], .cells true 151 (n * 2) ls, .cells true 48 (k * 2) ks])) ∧ (lostL ls i = false → AV.plainL ls ∧ AV.plainL ks ∧ AV.plainL ls ∧ AV.plainL ks ∧ isL ls ∧ ls.length.beq (n * 2) ∧ n'.beq (n * 2) ∧ isW 4096 ks ∧ ks.length.beq (k * 2) ∧ k'.beq (k * 2) ∧ k.ble 100000 ∧ AV.plainL ls ∧ AV.plainL ks ∧ AV.plainL (kept (atL ls i)) ∧ (bytesOf (rowCut (kept (atL ls i)) 0 512)).isSome ∧ AV.plainL ls ∧ AV.plainL ks ∧ E (AV.tuple [.str ((bytesOf (rowCut (kept (atL ls i)) 0 512)).getD []), .int .i64 (Int.ofNat 0)]) ([.cells true 145 4 [.slice (some (1, 0)) n cc, .slice (some (2, 0)) k none, .bool dn, .ptr none], .cells true 151 (n * 2) ls, .cells true 48 (k * 2) ks]))))))) :
    ∃ q, zcallS tys fns KM11 60 17 [] [.ptr (some (0, 0)), .ptr none, .agg [.int .i64 (Int.ofNat 1), .int .i64 i, .int .i64 x, .fsl kn kl kc]] [.cells true 145 4 [.slice (some (1, 0)) n cc, .slice (some (2, 0)) k none, .bool dn, .ptr none], .cells true 151 n' ls, .cells true 48 k' ks] q (fun x _ => E x.1 x.2) := wp_of (qN [11, 2, 15, 0, 4, 0, 8, 0, 4, 0, 8, 0, 4, 0, 9, 0, 4, 0, 3, 2, 15, 0, 4, 0, 8, 0, 4, 0, 8, 0, 4, 0, 9, 0, 4, 0, 3, 2, 15, 0, 4, 0, 8, 0, 4, 0, 8, 0, 4, 0, 9, 0, 4, 0, 3, 2, 15, 0, 4, 0, 8, 0, 4, 0, 0, 0, 0, 0, 0, 4, 0, 7, 0, 4, 0, 0, 0, 9, 0, 4, 0, 3, 2, 15, 0, 4, 0, 8, 0, 4, 0, 0, 0, 0, 0, 0, 0, 0, 8, 0, 4, 0, 9, 0, 4, 0, 3, 15, 0, 4, 0, 8, 0, 4, 0, 0, 0, 0, 0, 0, 0, 0, 9, 0, 4, 0, 4, 0, 4, 0, 9, 0, 4, 0, 3]) (by kernel_rfl) h
theorem do2K_w (cc : Option Nat) (i : Int) (x : Int) (kn : Bool) (kl : Nat) (kc : List AV) (n : Nat) (n' : Nat) (k : Nat) (k' : Nat) (dn : Bool) (ls : List AV) (ks : List AV) (E : AV → List Blk → Prop) (h :
    (dn → AV.plainL ls ∧ AV.plainL ks ∧ AV.plainL ls ∧ AV.plainL ks ∧ AV.plainL ls ∧ AV.plainL ks ∧ AV.plainL ls ∧ AV.plainL ks ∧ E (AV.tuple [.str [], .int .i64 (Int.ofNat 9)]) ([.cells true 145 4 [.slice (some (1, 0)) n cc, .slice (some (2, 0)) k none, .bool dn, .ptr none], .cells true 151 n' ls, .cells true 48 k' ks])) ∧ (dn = false → AV.plainL ls ∧ AV.plainL ks ∧ AV.plainL ls ∧ AV.plainL ks ∧ isL ls ∧ isW n ks ∧ ls.length.beq (n * 2) ∧ ks.length.beq (k * 2) ∧ n'.beq (n * 2) ∧ k'.beq (k * 2) ∧ k.ble 100000 ∧ AV.plainL (kept (flushL ls ks)) ∧ AV.plainL ks ∧ AV.plainL (kept (flushL ls ks)) ∧ AV.plainL ks ∧ E (AV.tuple [.str [], .int .i64 (Int.ofNat 0)]) ([.cells true 145 4 [.slice (some (1, 0)) n cc, .slice none 0 (some 0), .bool dn, .ptr none], .cells true 151 (n * 2) (kept (flushL ls ks)), .cells true 48 (k * 2) ks]))) :
    ∃ q, zcallS tys fns KM11 60 17 [] [.ptr (some (0, 0)), .ptr none, .agg [.int .i64 (Int.ofNat 2), .int .i64 i, .int .i64 x, .fsl kn kl kc]] [.cells true 145 4 [.slice (some (1, 0)) n cc, .slice (some (2, 0)) k none, .bool dn, .ptr none], .cells true 151 n' ls, .cells true 48 k' ks] q (fun x _ => E x.1 x.2) := wp_of (qN [9, 2, 15, 0, 4, 0, 8, 0, 4, 0, 8, 0, 4, 0, 9, 0, 4, 0, 3, 15, 0, 4, 0, 8, 0, 4, 0, 0, 0, 0, 0, 0, 0, 0, 7, 0, 4, 0, 8, 0, 4, 0, 3]) (by kernel_rfl) h
theorem doK_ok : ZSum.Sound Try.prog tys (flOf tys) 17 ⟨[], doKM⟩ := by
  refine ZSum.wp (cxZ cx_goes) allM11 60 fun us bs c v bs' hm hc hin => ?_
  simp only [doKM] at hm
  split at hm
  · rename_i kd i x kn kl kc n cc k dn n' ls k' ks
    have p1 := zin_plain hin 1 rfl (by kernel_rfl)
    have p2 := zin_plain hin 2 rfl (by kernel_rfl)
    cases h0 : ieqB kd (Int.ofNat 0) with
    | true =>
      simp only [DT.m_node, h0, cb_true] at hm
      have hk : kd = Int.ofNat 0 := by rw [ieqB_eq, beq_iff_eq] at h0; exact h0
      subst hk
      have cs : allTrue [isL ls, Nat.beq ls.length (n * 2), Nat.beq n' (n * 2), Nat.ble 1 n, Nat.ble n 4096, isW n ks, Nat.beq ks.length (k * 2), Nat.beq k' (k * 2), Nat.ble k 100000, Nat.ble 1 k] = true := by
        cases ho : okP dn n i x <;> simp only [DT.m_node, DT.m_leaf, ho, cb_true, cb_false] at hm <;> (obtain ⟨rfl, _⟩ := some4 hm) <;> exact hc
      simp only [allTrue_cons, nbeq_iff, nble_iff] at cs
      obtain ⟨c1, c2, rfl, c8, c3, c4, c5, rfl, c6, c7, _⟩ := cs
      have c9 := isW_up c4 c3
      refine do0K_w cc i x kn kl kc n (n * 2) k (k * 2) dn ls ks _ ?_
      simp only [kept_eq, secA] at hm ⊢
      refine ⟨fun hx => ⟨fun h1 => ?_, fun h1 => ⟨fun h2 => ?_, fun h2 => ⟨fun h3 => ?_, fun h3 => ?_⟩⟩⟩, fun hx => ⟨fun h1 => ?_, fun h1 => ⟨fun h2 => ?_, fun h2 => ⟨fun h3 => ?_, fun h3 => ?_⟩⟩⟩⟩
      all_goals
        first
          | (have ho : okP dn n i x = true := by simp only [okP, hx, h1, h2, h3]; rfl)
          | (have ho : okP dn n i x = false := by simp only [okP, hx, h1, h2, h3]; rfl)
          | (have ho : okP dn n i x = false := by simp only [okP, hx, h1, h2, Bool.and_false, Bool.false_and, Bool.not_true])
          | (have ho : okP dn n i x = false := by simp only [okP, hx, h1, Bool.and_false, Bool.false_and, Bool.not_true])
        simp only [DT.m_node, DT.m_leaf, ho, cb_true, cb_false] at hm
        obtain ⟨rfl, rfl, rfl⟩ := some4 hm
        and_intros
        all_goals with_reducible first
          | assumption
          | exact ofBytes_plainM _
          | exact u8L_ofBytes _
          | exact xorB_plain _
          | exact pushW_plain _ _ _
          | exact Sm_i _
          | exact Sc_i _
          | exact nble_iff.2 (by omega)
          | exact nbeq_iff.2 rfl
          | exact nbeq_iff.2 (by omega)
          | exact nbeq_iff.2 (by rw [ofBytes_length, secB_len])
          | rfl
          | (simp only [erP, h1, h2, h3, hx, if_true, Bool.false_eq_true, if_false]; done)
          | (simp only [erP, h1, h2, if_true, Bool.false_eq_true, if_false]; done)
          | (simp only [erP, h1, if_true]; done)
    | false =>
    cases h1 : ieqB kd (Int.ofNat 1) with
    | true =>
      simp only [DT.m_node, DT.m_leaf, h0, h1, cb_true, cb_false] at hm
      have hk : kd = Int.ofNat 1 := by rw [ieqB_eq, beq_iff_eq] at h1; exact h1
      subst hk
      obtain ⟨rfl, rfl, rfl⟩ := some4 hm
      simp only [allTrue_cons, nbeq_iff, nble_iff] at hc
      obtain ⟨c1, c2, rfl, c8, c3, c4, c5, rfl, c6, c7, _⟩ := hc
      have c9 := isW_up c4 c3
      refine do1K_w cc i x kn kl kc n (n * 2) k (k * 2) dn ls ks _ ?_
      have eL := atL_bytes ls i
      have lL := atL_len (i := i) c1
      have rL : rowCut (atL ls i) 0 512 = atL ls i := rowCut_id _ _ (by rw [eL, ofBytes_length]; exact lL)
      have bL : bytesOf (atL ls i) = some (bytesL (atL ls i)) := by rw [eL, bytesOf_ofBytes, bytesL_ofBytes]
      simp only [kept_eq, rL, bL]
      refine ⟨fun h1 => ?_, fun h1 => ⟨fun h2 => ?_, fun h2 => ⟨fun h3 => ?_, fun h3 => ⟨fun h4 => ?_, fun h4 => ⟨fun h5 => ?_, fun h5 => ?_⟩⟩⟩⟩⟩
      all_goals
        try
          have eW := atW_bytes ks i
          have lW := atW_len c4 h4
          have bW : bytesOf (atW ks i) = some (bytesL (atW ks i)) := by rw [eW, bytesOf_ofBytes, bytesL_ofBytes]
          have nW : (atW ks i).length = 512 := by rw [eW, ofBytes_length]; exact lW
          simp only [bW, nW]
        and_intros
        all_goals with_reducible first
          | assumption
          | exact atW_plain _ _
          | exact atL_plain _ _
          | exact Sm_i _
          | exact Sc_i _
          | exact nble_iff.2 (by omega)
          | exact nbeq_iff.2 rfl
          | exact nbeq_iff.2 (by omega)
          | exact Option.isSome_some
          | rfl
          | (simp only [erR, stR, hasW_nil, h1, h2, h3, h4, h5, if_true, Bool.false_eq_true, if_false, Option.getD_some]; done)
          | (simp only [erR, stR, hasW_nil, h1, h2, h3, h4, if_true, Bool.false_eq_true, if_false, Option.getD_some]; done)
          | (simp only [erR, stR, h1, h2, h3, if_true, Bool.false_eq_true, if_false]; done)
          | (simp only [erR, stR, h1, h2, if_true, Bool.false_eq_true, if_false]; done)
          | (simp only [erR, stR, h1, if_true]; done)
    | false =>
    cases h2 : ieqB kd (Int.ofNat 2) with
    | true =>
      simp only [DT.m_node, h0, h1, h2, cb_true, cb_false] at hm
      have hk : kd = Int.ofNat 2 := by rw [ieqB_eq, beq_iff_eq] at h2; exact h2
      subst hk
      have cs : allTrue [isL ls, Nat.beq ls.length (n * 2), Nat.beq n' (n * 2), Nat.ble 1 n, Nat.ble n 4096, isW n ks, Nat.beq ks.length (k * 2), Nat.beq k' (k * 2), Nat.ble k 100000, Nat.ble 1 k] = true := by
        cases ho : dn <;> simp only [DT.m_node, DT.m_leaf, ho, cb_true, cb_false] at hm <;> (obtain ⟨rfl, _⟩ := some4 hm) <;> exact hc
      simp only [allTrue_cons, nbeq_iff, nble_iff] at cs
      obtain ⟨c1, c2, rfl, c8, c3, c4, c5, rfl, c6, c7, _⟩ := cs
      have c9 := isW_up c4 c3
      refine do2K_w cc i x kn kl kc n (n * 2) k (k * 2) dn ls ks _ ?_
      (try simp only [kept_eq] at hm ⊢)
      refine ⟨fun h3 => ?_, fun h3 => ?_⟩
      all_goals
        simp only [DT.m_node, DT.m_leaf, h3, cb_true, cb_false] at hm
        obtain ⟨rfl, rfl, rfl⟩ := some4 hm
        rw [h3]
        and_intros
        all_goals with_reducible first
          | assumption
          | exact secA_plain _
          | exact ofBytes_plainM _
          | exact u8L_ofBytes _
          | exact xorB_plain _
          | exact pushW_plain _ _ _
          | exact flushL_plain _ _
          | exact atW_plain _ _
          | exact atL_plain _ _
          | exact eqv_self _
          | exact Sm_i _
          | exact Sc_i _
          | exact nble_iff.2 (by omega)
          | exact nbeq_iff.2 rfl
          | exact nbeq_iff.2 (by omega)
          | exact nbeq_iff.2 (by rw [ofBytes_length, secB_len])
          | rfl
    | false => simp only [DT.m_node, h0, h1, h2, cb_false, DT.m_no] at hm; cases hm
  · cases hm
def cpR : ZSum := ⟨[], fun us bs => (cpNM us bs).or (cpKM us bs)⟩
theorem cpR_ok : ZSum.Sound Try.prog tys (flOf tys) 24 cpR := ZSum.or cpN_ok cpK_ok
def doR : ZSum := ⟨[], fun us bs => (doNM us bs).or (doKM us bs)⟩
theorem doR_ok : ZSum.Sound Try.prog tys (flOf tys) 17 doR := ZSum.or doN_ok doK_ok
end Go.Proofs.Ytlmgdpaajongbaa
end
end

section
noncomputable section
namespace Go.Ab
open M
theorem cA_encB' (l : List Bool) (i : Nat) (h : i < l.length) : cA (encB l) i = .bool l[i] := by
  unfold cA
  rw [listAt_eq]
  show ((l.map _)[i]?).getD _ = _
  rw [List.getElem?_map, List.getElem?_eq_getElem h]; rfl
end Go.Ab
namespace Go.Proofs.Ytlmgdpaajongbaa
open Go.Ab.M Go.Ab Go
def crZM (vs : List AV) (bs : List Blk) : DT (List Bool × AX × List AV × List Blk) := match vs, bs with
  | [.ptr (some (0, 0)), .slice none 0 (some 0), .slice (some (1, 0)) k none, .int .i64 (.ofNat m), .int .i64 (.ofNat i)], [.cells true 145 4 [.slice (some (2, 0)) n cc, .slice (some (1, 0)) k1 none, .bool dn, .ptr none], .cells true 48 k' ks, .cells true 151 n' ls] =>
    .leaf ([isW 4096 ks, Nat.beq ks.length (k * 2), Nat.beq k' (k * 2), Nat.beq m k, Nat.beq i 0, Nat.ble k 100000], .normal, [.ptr (some (0, 0)), .slice none 0 (some 0), .slice (some (1, 0)) k none, .int .i64 (Int.ofNat k), .int .i64 (Int.ofNat k)], [.cells true 145 4 [.slice (some (2, 0)) n cc, .slice (some (1, 0)) k1 none, .bool dn, .ptr none], .cells true 48 (k * 2) ks, .cells true 151 n' ls])
  | _, _ => .no
def crZ0M (vs : List AV) (bs : List Blk) : DT (List Bool × AX × List AV × List Blk) := match vs, bs with
  | [.ptr (some (0, 0)), .slice none 0 (some 0), .slice none 0 (some 0), .int .i64 (.ofNat 0), .int .i64 (.ofNat 0)], [.cells true 145 4 [.slice (some (1, 0)) n cc, .slice none 0 (some 0), .bool dn, .ptr none], .cells true 151 n' ls] =>
    .leaf ([], .normal, [.ptr (some (0, 0)), .slice none 0 (some 0), .slice none 0 (some 0), .int .i64 (Int.ofNat 0), .int .i64 (Int.ofNat 0)], [.cells true 145 4 [.slice (some (1, 0)) n cc, .slice none 0 (some 0), .bool dn, .ptr none], .cells true 151 n' ls])
  | _, _ => .no
def crOM (vs : List AV) (bs : List Blk) : DT (List Bool × AX × List AV × List Blk) := match vs, bs with
  | [.ptr (some (0, 0)), .slice (some (1, 0)) kl cp, .slice (some (2, 0)) k none, .int .i64 (.ofNat m), .int .i64 (.ofNat i)], [.cells true 145 4 [.slice (some (3, 0)) n cc, .slice (some (2, 0)) k1 none, .bool dn, .ptr none], .cells true 4 kl' kc, .cells true 48 k' ks, .cells true 151 n' ls] =>
    .leaf ([isL ls, isW n ks, isB kc, Nat.beq ls.length (n * 2), Nat.beq ks.length (k * 2), Nat.beq kc.length kl, Nat.beq n' (n * 2), Nat.beq k1 k, Nat.beq k' (k * 2), Nat.beq kl' kl, Nat.beq m k, Nat.beq i 0, Nat.ble k 100000], .normal, [.ptr (some (0, 0)), .slice (some (1, 0)) kl cp, .slice (some (2, 0)) k none, .int .i64 (Int.ofNat k), .int .i64 (Int.ofNat k)], [.cells true 145 4 [.slice (some (3, 0)) n cc, .slice (some (2, 0)) k none, .bool dn, .ptr none], .cells true 4 kl kc, .cells true 48 (k * 2) ks, .cells true 151 (n * 2) (kept (crashL ls ks kc))])
  | _, _ => .no
def crZL : ZLoop := ⟨35, blockOf Try.f22 0, [0, 1, 11, 12, 13], 0, [], fun vs bs => (crZM vs bs).or ((crZ0M vs bs).or (crOM vs bs))⟩
theorem crZ_w (cc : Option Nat) (n : Nat) (n' : Nat) (k : Nat) (k1 : Nat) (k' : Nat) (dn : Bool) (ls : List AV) (ks : List AV) (m : Nat) (i : Nat) (E : AX → List AV → List Blk → Prop) (h :
    (iltB (Int.ofNat i) (Int.ofNat m) → i.succ.ble k ∧ (0 + i * 2 + 2).ble k' ∧ (0 + i * 2).succ.ble ks.length ∧ AV.isInt .i64 (cA ks (0 + i * 2)) ∧ (0 + i * 2 + 1).succ.ble ks.length ∧ (cA ks (0 + i * 2 + 1)).isFsl ∧ AV.plainL ks ∧ AV.plainL ls ∧ E .normal ([.ptr (some (0, 0)), .slice none 0 (some 0), .slice (some (1, 0)) k none, .int .i64 (Int.ofNat m), .int .i64 (wrapA .i64 ((Int.ofNat i).add (Int.ofNat 1)))]) ([.cells true 145 4 [.slice (some (2, 0)) n cc, .slice (some (1, 0)) k1 none, .bool dn, .ptr none], .cells true 48 k' ks, .cells true 151 n' ls])) ∧ (iltB (Int.ofNat i) (Int.ofNat m) = false → AV.plainL ks ∧ AV.plainL ls ∧ E (.exit 0) ([.ptr (some (0, 0)), .slice none 0 (some 0), .slice (some (1, 0)) k none, .int .i64 (Int.ofNat m), .int .i64 (Int.ofNat i)]) ([.cells true 145 4 [.slice (some (2, 0)) n cc, .slice (some (1, 0)) k1 none, .bool dn, .ptr none], .cells true 48 k' ks, .cells true 151 n' ls]))) :
    ∃ q, roundS tys fns KM3 30 22 30 crZL (roundOf (blockOf Try.f22 0)) 3 ([.ptr (some (0, 0)), .slice none 0 (some 0), .slice (some (1, 0)) k none, .int .i64 (Int.ofNat m), .int .i64 (Int.ofNat i)], [.cells true 145 4 [.slice (some (2, 0)) n cc, .slice (some (1, 0)) k1 none, .bool dn, .ptr none], .cells true 48 k' ks, .cells true 151 n' ls]) q (fun x _ => E x.1 x.2.1 x.2.2) := wp_of (qN [4, 2, 4, 0, 0, 0, 0, 0, 0, 26, 0, 4, 0, 3, 13, 0, 4, 0, 3]) (by kernel_rfl) h
theorem crZx_w (cc : Option Nat) (n : Nat) (n' : Nat) (dn : Bool) (ls : List AV) (E : AX → List AV → List Blk → Prop) (h :
    AV.plainL ls ∧ E (.exit 0) ([.ptr (some (0, 0)), .slice none 0 (some 0), .slice none 0 (some 0), .int .i64 (Int.ofNat 0), .int .i64 (Int.ofNat 0)]) ([.cells true 145 4 [.slice (some (1, 0)) n cc, .slice none 0 (some 0), .bool dn, .ptr none], .cells true 151 n' ls])) :
    ∃ q, roundS tys fns KM3 30 22 30 crZL (roundOf (blockOf Try.f22 0)) 2 ([.ptr (some (0, 0)), .slice none 0 (some 0), .slice none 0 (some 0), .int .i64 (Int.ofNat 0), .int .i64 (Int.ofNat 0)], [.cells true 145 4 [.slice (some (1, 0)) n cc, .slice none 0 (some 0), .bool dn, .ptr none], .cells true 151 n' ls]) q (fun x _ => E x.1 x.2.1 x.2.2) := wp_of (qN [13, 0, 3]) (by kernel_rfl) h
theorem crO_w (cc : Option Nat) (n : Nat) (n' : Nat) (k : Nat) (k' : Nat) (dn : Bool) (ls : List AV) (ks : List AV) (kl : Nat) (kl' : Nat) (cp : Option Nat) (kc : List AV) (m : Nat) (i : Nat) (E : AX → List AV → List Blk → Prop) (h :
    (iltB (Int.ofNat i) (Int.ofNat m) → i.succ.ble k ∧ (0 + i * 2 + 2).ble k' ∧ (0 + i * 2).succ.ble ks.length ∧ AV.isInt .i64 (cA ks (0 + i * 2)) ∧ (0 + i * 2 + 1).succ.ble ks.length ∧ (cA ks (0 + i * 2 + 1)).isFsl ∧ (iltB (Int.ofNat i) (Int.ofNat kl) → i.succ.ble kl ∧ (0 + i * 1).succ.ble kl' ∧ (0 + i * 1).succ.ble kc.length ∧ (cA kc (0 + i * 1)).isBool ∧ ((cA kc (0 + i * 1)).boolOf → ileB (Int.ofNat 0) (cA ks (0 + i * 2)).intOf ∧ (cA ks (0 + i * 2)).intOf.toNat.succ.ble n ∧ (0 + (cA ks (0 + i * 2)).intOf.toNat * 2 + 2).ble n' ∧ Sm (AV.slice (some (3, 0)) n cc) ∧ Sm (AV.int .i64 (cA ks (0 + i * 2)).intOf) ∧ Sm (AV.fsl (cA ks (0 + i * 2 + 1)).fslNil (cA ks (0 + i * 2 + 1)).fslLen (cA ks (0 + i * 2 + 1)).fslCells) ∧ AV.plainL kc ∧ AV.plainL ks ∧ AV.plainL (rowSet ls (0 + (cA ks (0 + i * 2)).intOf.toNat * 2) [.fsl (cA ks (0 + i * 2 + 1)).fslNil (cA ks (0 + i * 2 + 1)).fslLen (cA ks (0 + i * 2 + 1)).fslCells, .bool false]) ∧ E .normal ([.ptr (some (0, 0)), .slice (some (1, 0)) kl cp, .slice (some (2, 0)) k none, .int .i64 (Int.ofNat m), .int .i64 (wrapA .i64 ((Int.ofNat i).add (Int.ofNat 1)))]) ([.cells true 145 4 [.slice (some (3, 0)) n cc, .slice (some (2, 0)) k none, .bool dn, .ptr none], .cells true 4 kl' kc, .cells true 48 k' ks, .cells true 151 n' (rowSet ls (0 + (cA ks (0 + i * 2)).intOf.toNat * 2) [.fsl (cA ks (0 + i * 2 + 1)).fslNil (cA ks (0 + i * 2 + 1)).fslLen (cA ks (0 + i * 2 + 1)).fslCells, .bool false])])) ∧ ((cA kc (0 + i * 1)).boolOf = false → AV.plainL kc ∧ AV.plainL ks ∧ AV.plainL ls ∧ E .normal ([.ptr (some (0, 0)), .slice (some (1, 0)) kl cp, .slice (some (2, 0)) k none, .int .i64 (Int.ofNat m), .int .i64 (wrapA .i64 ((Int.ofNat i).add (Int.ofNat 1)))]) ([.cells true 145 4 [.slice (some (3, 0)) n cc, .slice (some (2, 0)) k none, .bool dn, .ptr none], .cells true 4 kl' kc, .cells true 48 k' ks, .cells true 151 n' ls]))) ∧ (iltB (Int.ofNat i) (Int.ofNat kl) = false → AV.plainL kc ∧ AV.plainL ks ∧ AV.plainL ls ∧ E .normal ([.ptr (some (0, 0)), .slice (some (1, 0)) kl cp, .slice (some (2, 0)) k none, .int .i64 (Int.ofNat m), .int .i64 (wrapA .i64 ((Int.ofNat i).add (Int.ofNat 1)))]) ([.cells true 145 4 [.slice (some (3, 0)) n cc, .slice (some (2, 0)) k none, .bool dn, .ptr none], .cells true 4 kl' kc, .cells true 48 k' ks, .cells true 151 n' ls]))) ∧ (iltB (Int.ofNat i) (Int.ofNat m) = false → AV.plainL kc ∧ AV.plainL ks ∧ AV.plainL ls ∧ E (.exit 0) ([.ptr (some (0, 0)), .slice (some (1, 0)) kl cp, .slice (some (2, 0)) k none, .int .i64 (Int.ofNat m), .int .i64 (Int.ofNat i)]) ([.cells true 145 4 [.slice (some (3, 0)) n cc, .slice (some (2, 0)) k none, .bool dn, .ptr none], .cells true 4 kl' kc, .cells true 48 k' ks, .cells true 151 n' ls]))) :
    ∃ q, roundS tys fns KM3 30 22 30 crZL (roundOf (blockOf Try.f22 0)) 4 ([.ptr (some (0, 0)), .slice (some (1, 0)) kl cp, .slice (some (2, 0)) k none, .int .i64 (Int.ofNat m), .int .i64 (Int.ofNat i)], [.cells true 145 4 [.slice (some (3, 0)) n cc, .slice (some (2, 0)) k none, .bool dn, .ptr none], .cells true 4 kl' kc, .cells true 48 k' ks, .cells true 151 n' ls]) q (fun x _ => E x.1 x.2.1 x.2.2) := wp_of (qN [4, 2, 4, 0, 0, 0, 0, 0, 0, 6, 2, 9, 0, 5, 0, 0, 0, 4, 2, 19, 0, 0, 5, 0, 6, 0, 6, 0, 6, 0, 14, 0, 4, 0, 4, 0, 3, 14, 0, 4, 0, 4, 0, 3, 23, 0, 4, 0, 4, 0, 3, 14, 0, 4, 0, 4, 0, 3]) (by kernel_rfl) h
theorem crZ_ok : ZLoop.OK Try.prog (tyCx tys) (flOf tys) 0 { crZL with m := crZM } := by
  refine ZLoop.wp (cxZ cx_goes) allM3 22 30 30 (b := roundOf (blockOf Try.f22 0)) (by kernel_rfl) (by kernel_rfl) (α := Nat × Option Nat × Nat × Nat × Bool × List AV × WL × Nat)
    (fun (n, cc, n', k1, dn, ls, w, i) => ([.ptr (some (0, 0)), .slice none 0 (some 0), .slice (some (1, 0)) w.length none, .int .i64 (Int.ofNat w.length), .int .i64 (Int.ofNat i)], [.cells true 145 4 [.slice (some (2, 0)) n cc, .slice (some (1, 0)) k1 none, .bool dn, .ptr none], .cells true 48 (w.length * 2) (encW w), .cells true 151 n' ls]))
    (fun (n, cc, n', k1, dn, ls, w, i) => AV.plainL ls = true ∧ i ≤ w.length ∧ w.length ≤ 100000) (fun _ => 3) (fun (n, cc, n', k1, dn, ls, w, i) => w.length - i)
    (fun (n, cc, n', k1, dn, ls, w, i) => (.exit 0, [.ptr (some (0, 0)), .slice none 0 (some 0), .slice (some (1, 0)) w.length none, .int .i64 (Int.ofNat w.length), .int .i64 (Int.ofNat w.length)], [.cells true 145 4 [.slice (some (2, 0)) n cc, .slice (some (1, 0)) k1 none, .bool dn, .ptr none], .cells true 48 (w.length * 2) (encW w), .cells true 151 n' ls])) ?_ ?_
  · intro vs bs conds X vs' bs' h hc hin
    simp only [crZM] at h
    split at h
    · rename_i k m i n cc k1 dn k' ks n' ls
      obtain ⟨rfl, rfl, rfl, rfl⟩ := some5 h
      simp only [allTrue_cons, nbeq_iff, nble_iff] at hc
      obtain ⟨c1, c2, rfl, rfl, rfl, c3, _⟩ := hc
      obtain ⟨w, rfl, hw⟩ := isW_iff.1 c1
      rw [encW_length] at c2
      have c2 : m = w.length := by omega
      subst c2
      exact ⟨(n, cc, n', k1, dn, ls, w, 0), ⟨zin_plain hin 2 rfl (by kernel_rfl), Nat.zero_le _, c3⟩, rfl, rfl, rfl, rfl⟩
    · cases h
  · rintro ⟨n, cc, n', k1, dn, ls, w, i⟩ ⟨hp, hi, hk⟩
    refine crZ_w cc n n' w.length k1 (w.length * 2) dn ls (encW w) w.length i _ ⟨fun h => ?_, fun h => ?_⟩
    · have h : i < w.length := lt_nat h
      have z := cA_encW w i h
      simp only [Nat.zero_add, z.1, z.2, wrap_inc (show i < 9223372036854775807 by omega)]
      exact ⟨nble_iff.2 h, nble_iff.2 (by omega), nble_iff.2 (by rw [encW_length]; omega), rfl, nble_iff.2 (by rw [encW_length]; omega), rfl, encW_plain _, hp, Stp.go (n, cc, n', k1, dn, ls, w, i + 1) ⟨hp, h, hk⟩ (by simp only; omega) rfl⟩
    · have h : w.length ≤ i := ge_nat h
      have hi : i = w.length := by omega
      subst hi
      exact ⟨encW_plain _, hp, Stp.fin rfl⟩
theorem crZ0_ok : ZLoop.OK Try.prog (tyCx tys) (flOf tys) 0 { crZL with m := crZ0M } := by
  refine ZLoop.wp0 (cxZ cx_goes) allM3 22 30 30 (b := roundOf (blockOf Try.f22 0)) (by kernel_rfl) (by kernel_rfl) fun vs bs conds X vs' bs' h hc hin => ?_
  simp only [crZ0M] at h
  split at h
  · rename_i n cc dn n' ls
    obtain ⟨rfl, rfl, rfl, rfl⟩ := some5 h
    exact ⟨.exit 0, AX.noConfusion, rfl, crZx_w cc n n' dn ls _ ⟨zin_plain hin 1 rfl (by kernel_rfl), rfl, rfl, rfl⟩⟩
  · cases h
def coE (cc : Option Nat) (dn : Bool) (l l' : SL) (w : WL) (cp : Option Nat) (kp : List Bool) (i : Nat) : ZSt := ([.ptr (some (0, 0)), .slice (some (1, 0)) kp.length cp, .slice (some (2, 0)) w.length none, .int .i64 (Int.ofNat w.length), .int .i64 (Int.ofNat i)], [.cells true 145 4 [.slice (some (3, 0)) l.length cc, .slice (some (2, 0)) w.length none, .bool dn, .ptr none], .cells true 4 kp.length (encB kp), .cells true 48 (w.length * 2) (encW w), .cells true 151 (l.length * 2) (encL l')])
theorem crO_ok : ZLoop.OK Try.prog (tyCx tys) (flOf tys) 0 { crZL with m := crOM } := by
  refine ZLoop.wp (cxZ cx_goes) allM3 22 30 30 (b := roundOf (blockOf Try.f22 0)) (by kernel_rfl) (by kernel_rfl) (α := Option Nat × Bool × SL × WL × Option Nat × List Bool × Nat)
    (fun (cc, dn, l, w, cp, kp, i) => coE cc dn l (crI w kp l i) w cp kp i) (fun (cc, dn, l, w, cp, kp, i) => okW l.length w ∧ okL l ∧ i ≤ w.length ∧ w.length ≤ 100000) (fun _ => 4) (fun (cc, dn, l, w, cp, kp, i) => w.length - i)
    (fun (cc, dn, l, w, cp, kp, i) => (.exit 0, coE cc dn l (crF w kp l) w cp kp w.length)) ?_ ?_
  · intro vs bs conds X vs' bs' h hc hin
    simp only [crOM] at h
    split at h
    · rename_i kl cp k m i n cc k1 dn kl' kc k' ks n' ls
      obtain ⟨rfl, rfl, rfl, rfl⟩ := some5 h
      simp only [allTrue_cons, nbeq_iff, nble_iff] at hc
      obtain ⟨c1, c2, c0, c3, c4, c6, rfl, rfl, rfl, rfl, rfl, rfl, c5, _⟩ := hc
      obtain ⟨l, rfl, hl⟩ := isL_iff.1 c1
      obtain ⟨w, rfl, hw⟩ := isW_iff.1 c2
      obtain ⟨kp, rfl⟩ := isB_iff.1 c0
      rw [encL_length] at c3
      rw [encW_length] at c4
      rw [encB_length] at c6
      have c3 : n = l.length := by omega
      have c4 : m = w.length := by omega
      subst c3; subst c4; subst c6
      exact ⟨(cc, dn, l, w, cp, kp, 0), ⟨hw, hl, Nat.zero_le _, c5⟩, rfl, rfl, rfl, by rw [kept_eq]; unfold crashL; rw [decW_encW, decL_encL, boolsL_encB]; rfl⟩
    · cases h
  · rintro ⟨cc, dn, l, w, cp, kp, i⟩ ⟨hw, hl, hi, hk⟩
    refine crO_w cc l.length (l.length * 2) w.length (w.length * 2) dn (encL (crI w kp l i)) (encW w) kp.length kp.length cp (encB kp) w.length i _ ⟨fun h => ?_, fun h => ?_⟩
    · have h : i < w.length := lt_nat h
      have z := cA_encW w i h
      have y := hw w[i] (List.getElem_mem h)
      have yl : w[i].1.toNat < l.length := by omega
      have ei := crI_succ w kp l i h
      have e := set_encL (crI w kp l i) w[i].1.toNat (some w[i].2) false (by rw [crI_len]; exact yl)
      have e : rowSet (encL (crI w kp l i)) (w[i].1.toNat * 2) [.fsl false w[i].2.length (ofBytes w[i].2), .bool false] = encL (setl (crI w kp l i) w[i]) := e
      simp only [Nat.zero_add, Nat.mul_one, z.1, z.2, AV.intOf, AV.fslNil, AV.fslLen, AV.fslCells, e, wrap_inc (show i < 9223372036854775807 by omega)]
      have go : ∀ b, kp.getD i false = b → Stp (fun (cc, dn, l, w, cp, kp, i) => coE cc dn l (crI w kp l i) w cp kp i) (fun (cc, dn, l, w, cp, kp, i) => okW l.length w ∧ okL l ∧ i ≤ w.length ∧ w.length ≤ 100000) (fun _ => 4) (fun (cc, dn, l, w, cp, kp, i) => w.length - i)
          (fun (cc, dn, l, w, cp, kp, i) => (.exit 0, coE cc dn l (crF w kp l) w cp kp w.length)) (cc, dn, l, w, cp, kp, i) .normal (coE cc dn l (if b then setl (crI w kp l i) w[i] else crI w kp l i) w cp kp (i + 1)).1 (coE cc dn l (if b then setl (crI w kp l i) w[i] else crI w kp l i) w cp kp (i + 1)).2 := by
        rintro b rfl
        rw [← ei]
        exact Stp.go (cc, dn, l, w, cp, kp, i + 1) ⟨hw, hl, h, hk⟩ (by simp only; omega) rfl
      refine ⟨nble_iff.2 h, nble_iff.2 (by omega), nble_iff.2 (by rw [encW_length]; omega), rfl, nble_iff.2 (by rw [encW_length]; omega), rfl, fun h2 => ?_, fun h2 => ?_⟩
      · have h2 : i < kp.length := lt_nat h2
        have eg : kp.getD i false = kp[i] := by rw [List.getD_eq_getElem?_getD, List.getElem?_eq_getElem h2]; rfl
        simp only [cA_encB' kp i h2, AV.boolOf]
        refine ⟨nble_iff.2 h2, nble_iff.2 h2, nble_iff.2 (by rw [encB_length]; exact h2), rfl, fun h3 => ?_, fun h3 => ?_⟩
        · exact ⟨ile0 y.1, nble_iff.2 yl, nble_iff.2 (by omega), rfl, rfl, rfl, encB_plain _, encW_plain _, encL_plain _, go true (by rw [eg, h3])⟩
        · exact ⟨encB_plain _, encW_plain _, encL_plain _, go false (by rw [eg, h3])⟩
      · have h2 : kp.length ≤ i := ge_nat h2
        exact ⟨encB_plain _, encW_plain _, encL_plain _, go false (by rw [List.getD_eq_getElem?_getD, List.getElem?_eq_none h2]; rfl)⟩
    · have h : w.length ≤ i := ge_nat h
      have hi : i = w.length := by omega
      subst hi
      exact ⟨encB_plain _, encW_plain _, encL_plain _, Stp.fin (by simp only [crI_all]; rfl)⟩
theorem crZL_ok : crZL.OK Try.prog (tyCx tys) (flOf tys) 0 := ZLoop.or (m1 := crZM) (m2 := fun vs bs => (crZ0M vs bs).or (crOM vs bs)) rfl crZ_ok (ZLoop.or (m1 := crZ0M) (m2 := crOM) rfl crZ0_ok crO_ok)
def KM13a : Known := { f := [(82, cloneR)], l := [((22, 0), crZL)] }
theorem KM13a_ok : KOK Try.prog tys KM13a := ⟨trivial, ⟨cloneR_ok, trivial⟩, trivial, ⟨crZL_ok, trivial⟩⟩
theorem allM13 : SumAll Try.prog (mkCxZ tys fns KM13a) := sums_allZ KM13a_ok
end Go.Proofs.Ytlmgdpaajongbaa
end
end

section
noncomputable section
namespace Go.Proofs.Ytlmgdpaajongbaa
open Go.Ab.M Go.Ab Go
theorem cZN_w (cc : Option Nat) (n : Nat) (n' : Nat) (dn : Bool) (ls : List AV) (E : AV → List Blk → Prop) (h :
    Sc (blockOf Try.f22 0) ∧ AV.plainL ls ∧ AV.plainL ls ∧ AV.plainL ls ∧ AV.plainL ls ∧ E (AV.tuple []) ([.cells true 145 4 [.slice (some (1, 0)) n cc, .slice none 0 (some 0), .bool dn, .ptr none], .cells true 151 n' ls])) :
    ∃ q, zcallS tys fns KM13a 60 22 [] [.ptr (some (0, 0)), .slice none 0 (some 0)] [.cells true 145 4 [.slice (some (1, 0)) n cc, .slice none 0 (some 0), .bool dn, .ptr none], .cells true 151 n' ls] q (fun x _ => E x.1 x.2) := wp_of (qN [17, 0, 7, 0, 8, 0, 11, 0, 3]) (by kernel_rfl) h
theorem cZK_w (cc : Option Nat) (n : Nat) (n' : Nat) (k : Nat) (k' : Nat) (c : Option Nat) (dn : Bool) (ls : List AV) (ks : List AV) (E : AV → List Blk → Prop) (h :
    Sc (blockOf Try.f22 0) ∧ AV.plainL ks ∧ AV.plainL ls ∧ AV.plainL ks ∧ AV.plainL ls ∧ isW 4096 ks ∧ ks.length.beq (k * 2) ∧ k'.beq (k * 2) ∧ k.beq k ∧ k.ble 100000 ∧ AV.plainL ks ∧ AV.plainL ls ∧ AV.plainL ls ∧ AV.plainL ks ∧ E (AV.tuple []) ([.cells true 145 4 [.slice (some (1, 0)) n cc, .slice none 0 (some 0), .bool dn, .ptr none], .cells true 151 n' ls, .cells true 48 (k * 2) ks])) :
    ∃ q, zcallS tys fns KM13a 60 22 [] [.ptr (some (0, 0)), .slice none 0 (some 0)] [.cells true 145 4 [.slice (some (1, 0)) n cc, .slice (some (2, 0)) k none, .bool dn, .ptr none], .cells true 151 n' ls, .cells true 48 k' ks] q (fun x _ => E x.1 x.2) := wp_of (qN [21, 0, 4, 0, 9, 0, 4, 0, 0, 0, 0, 0, 4, 0, 10, 0, 4, 0, 11, 0, 4, 0, 3]) (by kernel_rfl) h
theorem cOK_w (cc : Option Nat) (n : Nat) (n' : Nat) (k : Nat) (k' : Nat) (dn : Bool) (ls : List AV) (ks : List AV) (kl : Nat) (kl' : Nat) (cp : Option Nat) (kc : List AV) (E : AV → List Blk → Prop) (h :
    Sc (blockOf Try.f22 0) ∧ AV.plainL kc ∧ AV.plainL ks ∧ AV.plainL ls ∧ AV.plainL kc ∧ AV.plainL ks ∧ AV.plainL ls ∧ isL ls ∧ isW n ks ∧ isB kc ∧ ls.length.beq (n * 2) ∧ ks.length.beq (k * 2) ∧ kc.length.beq kl ∧ n'.beq (n * 2) ∧ k.beq k ∧ k'.beq (k * 2) ∧ kl'.beq kl ∧ k.beq k ∧ k.ble 100000 ∧ AV.plainL kc ∧ AV.plainL ks ∧ AV.plainL (kept (crashL ls ks kc)) ∧ AV.plainL kc ∧ AV.plainL (kept (crashL ls ks kc)) ∧ AV.plainL ks ∧ E (AV.tuple []) ([.cells true 145 4 [.slice (some (2, 0)) n cc, .slice none 0 (some 0), .bool dn, .ptr none], .cells true 4 kl kc, .cells true 151 (n * 2) (kept (crashL ls ks kc)), .cells true 48 (k * 2) ks])) :
    ∃ q, zcallS tys fns KM13a 60 22 [] [.ptr (some (0, 0)), .slice (some (1, 0)) kl cp] [.cells true 145 4 [.slice (some (2, 0)) n cc, .slice (some (3, 0)) k none, .bool dn, .ptr none], .cells true 4 kl' kc, .cells true 151 n' ls, .cells true 48 k' ks] q (fun x _ => E x.1 x.2) := wp_of (qN [24, 0, 4, 0, 4, 0, 10, 0, 4, 0, 4, 0, 0, 0, 0, 0, 0, 0, 0, 0, 0, 0, 0, 4, 0, 11, 0, 4, 0, 4, 0, 11, 0, 4, 0, 4, 0, 3]) (by kernel_rfl) h
def cZM (us : List AV) (bs : List Blk) : DT (List Bool × AV × List Blk) := match us, bs with
  | [.ptr (some (0, 0)), .slice none 0 (some 0)], [.cells true 145 4 [.slice (some (1, 0)) n cc, .slice none 0 (some 0), .bool dn, .ptr none], .cells true 151 n' ls] =>
    .leaf ([], .tuple [], [.cells true 145 4 [.slice (some (1, 0)) n cc, .slice none 0 (some 0), .bool dn, .ptr none], .cells true 151 n' ls])
  | [.ptr (some (0, 0)), .slice none 0 (some 0)], [.cells true 145 4 [.slice (some (1, 0)) n cc, .slice (some (2, 0)) k none, .bool dn, .ptr none], .cells true 151 n' ls, .cells true 48 k' ks] =>
    .leaf ([isW 4096 ks, Nat.beq ks.length (k * 2), Nat.beq k' (k * 2), Nat.ble k 100000], .tuple [], [.cells true 145 4 [.slice (some (1, 0)) n cc, .slice none 0 (some 0), .bool dn, .ptr none], .cells true 151 n' ls, .cells true 48 (k * 2) ks])
  | [.ptr (some (0, 0)), .slice (some (1, 0)) kl cp], [.cells true 145 4 [.slice (some (2, 0)) n cc, .slice (some (3, 0)) k none, .bool dn, .ptr none], .cells true 4 kl' kc, .cells true 151 n' ls, .cells true 48 k' ks] =>
    .leaf ([isL ls, isW n ks, Nat.beq ls.length (n * 2), Nat.beq ks.length (k * 2), Nat.beq n' (n * 2), Nat.beq k' (k * 2), Nat.ble k 100000, isB kc, Nat.beq kc.length kl, Nat.beq kl' kl], .tuple [], [.cells true 145 4 [.slice (some (2, 0)) n cc, .slice none 0 (some 0), .bool dn, .ptr none], .cells true 4 kl kc, .cells true 151 (n * 2) (kept (crashL ls ks kc)), .cells true 48 (k * 2) ks])
  | _, _ => .no
theorem cZ_ok : ZSum.Sound Try.prog tys (flOf tys) 22 ⟨[], cZM⟩ := by
  refine ZSum.wp (cxZ cx_goes) allM13 60 fun us bs c v bs' hm hc hin => ?_
  simp only [cZM] at hm
  split at hm
  · rename_i n cc dn n' ls
    obtain ⟨rfl, rfl, rfl⟩ := some4 hm
    have p1 := zin_plain hin 1 rfl (by kernel_rfl)
    exact cZN_w cc n n' dn ls _ ⟨rfl, p1, p1, p1, p1, rfl, rfl⟩
  · rename_i n cc k dn n' ls k' ks
    obtain ⟨rfl, rfl, rfl⟩ := some4 hm
    simp only [allTrue_cons, nbeq_iff, nble_iff] at hc
    obtain ⟨c1, c2, rfl, c3, _⟩ := hc
    have p1 := zin_plain hin 1 rfl (by kernel_rfl)
    have p2 := zin_plain hin 2 rfl (by kernel_rfl)
    exact cZK_w cc n n' k (k * 2) none dn ls ks _ ⟨rfl, p2, p1, p2, p1, c1, nbeq_iff.2 c2, nbeq_iff.2 rfl, nbeq_iff.2 rfl, nble_iff.2 c3, p2, p1, p1, p2, rfl, rfl⟩
  · rename_i kl cp n cc k dn kl' kc n' ls k' ks
    obtain ⟨rfl, rfl, rfl⟩ := some4 hm
    simp only [allTrue_cons, nbeq_iff, nble_iff] at hc
    obtain ⟨c1, c2, c3, c4, rfl, rfl, c5, c6, c7, rfl, _⟩ := hc
    have p0 := zin_plain hin 1 rfl (by kernel_rfl)
    have p1 := zin_plain hin 2 rfl (by kernel_rfl)
    have p2 := zin_plain hin 3 rfl (by kernel_rfl)
    refine cOK_w cc n (n * 2) k (k * 2) dn ls ks kl' kl' cp kc _ ?_
    rw [kept_eq]
    have b := @nbeq_iff
    and_intros
    all_goals with_reducible first
      | assumption
      | exact crashL_plain _ _ _
      | exact Sc_i _
      | exact b.2 rfl
      | exact b.2 c3
      | exact b.2 c4
      | exact b.2 c7
      | exact nble_iff.2 c5
      | rfl
  · cases hm
def crA : ZSum := ⟨[], fun us bs => ((crNM us bs).or (crKM us bs)).or (cZM us bs)⟩
theorem crA_ok : ZSum.Sound Try.prog tys (flOf tys) 22 crA := ZSum.or crR_ok cZ_ok
def KM14 : Known := { t := [(21, secR), (83, byR)], f := [(82, cloneR), (15, fewR)], z := [(20, wrR), (19, rdR), (18, flR), (22, crA), (23, caR), (24, cpR), (17, doR)] }
theorem KM14_ok : KOK Try.prog tys KM14 := ⟨⟨secR_ok, byR_ok, trivial⟩, ⟨cloneR_ok, fewR_ok, trivial⟩, ⟨wrR_ok, rdR_ok, flR_ok, crA_ok, caR_ok, cpR_ok, doR_ok, trivial⟩, trivial⟩
theorem allM14 : SumAll Try.prog (mkCxZ tys fns KM14) := sums_allZ KM14_ok
end Go.Proofs.Ytlmgdpaajongbaa
end
end

section
noncomputable section
namespace Go.Ab
namespace M
def stepA (s : SL × WL) (a : MAct) : SL × WL :=
  if ieqB a.k (Int.ofNat 0) then (if okP false 4 a.at_ a.x then (s.1, s.2 ++ [(a.at_, secB a.x 512)]) else s) else if ieqB a.k (Int.ofNat 2) then (s.2.foldl setl s.1, []) else s
def actS (ls cs : List AV) : SL × WL := (decA cs).foldl stepA (decL ls, [])
def actL (ls cs : List AV) : List AV := encL (actS ls cs).1
def actW (ls cs : List AV) : List AV := encW (actS ls cs).2
def actK (ls cs : List AV) : Nat := (actS ls cs).2.length
def actN (ls cs : List AV) : Bool := (actS ls cs).2.isEmpty
end M
open M
theorem ieq_t {a : Int} {j : Nat} (h : ieqB a (Int.ofNat j) = true) : a = (j : Int) := by rw [ieqB_eq, beq_iff_eq] at h; exact h
theorem ieq_f {a : Int} {j : Nat} (h : ieqB a (Int.ofNat j) = false) : ¬ a = (j : Int) := by rw [ieqB_eq, beq_eq_false_iff_ne] at h; exact h
theorem ieq_2 {a : Int} (g0 : ileB (Int.ofNat 0) a = true) (g1 : iltB a (Int.ofNat 3) = true) (g2 : ieqB a (Int.ofNat 0) = false) (g3 : ieqB a (Int.ofNat 1) = false) : ieqB a (Int.ofNat 2) = true := by
  have g2 := ieq_f g2
  have g3 := ieq_f g3
  rw [ileB_eq] at g0
  rw [iltB_eq] at g1
  have g0 : (0 : Int) ≤ a := of_decide_eq_true g0
  have g1 : a < 3 := of_decide_eq_true g1
  rw [ieqB_eq, beq_iff_eq]
  show a = 2
  have g2 : a ≠ 0 := g2
  have g3 : a ≠ 1 := g3
  omega
theorem ieq_g {a : Int} {j : Nat} (g : iltB a (Int.ofNat 3) = false) (h : j < 3) : ieqB a (Int.ofNat j) = false := by
  rw [iltB_eq] at g
  have g : ¬ a < 3 := of_decide_eq_false g
  rw [ieqB_eq, beq_eq_false_iff_ne]
  show a ≠ (j : Int)
  omega
theorem ieq_l {a : Int} (g : ileB (Int.ofNat 0) a = false) (j : Nat) : ieqB a (Int.ofNat j) = false := by
  rw [ileB_eq] at g
  have g : ¬ (0 : Int) ≤ a := of_decide_eq_false g
  rw [ieqB_eq, beq_eq_false_iff_ne]
  show a ≠ (j : Int)
  omega
theorem ieq_12 {a : Int} (g : ieqB a (Int.ofNat 1) = true) : ieqB a (Int.ofNat 2) = false := by
  rw [ieq_t g]; rfl
theorem pushA (w : WL) (i x : Int) : pushW (encW w) i (secA x) = encW (w ++ [(i, secB x 512)]) := by unfold pushW secA; rw [decW_encW, bytesL_ofBytes]
theorem pushA_nil (i x : Int) : pushW [] i (secA x) = encW [(i, secB x 512)] := pushA [] i x
def okSt (s : SL × WL) (i : Nat) : Prop := okL s.1 ∧ s.1.length = 4 ∧ okW 4 s.2 ∧ s.2.length ≤ i
theorem okP_iff {n : Nat} {i x : Int} (h : okP false n i x = true) : 0 ≤ i ∧ i < n := by
  unfold okP at h
  simp only [Bool.and_eq_true, Bool.not_eq_true'] at h
  exact ⟨ilt0 h.1.1.2, ile_n h.1.2⟩
theorem step_ok {s : SL × WL} {i : Nat} (h : okSt s i) (a : MAct) : okSt (stepA s a) (i + 1) := by
  obtain ⟨h1, h2, h3, h4⟩ := h
  unfold stepA
  split
  · split
    · rename_i ho
      obtain ⟨o1, o2⟩ := okP_iff ho
      exact ⟨h1, h2, okW_append h3 o1 o2 (secB_len _ _), by rw [List.length_append]; show _ + 1 ≤ _; omega⟩
    · exact ⟨h1, h2, h3, by omega⟩
  · split
    · exact ⟨flush_ok (n := 4) _ _ h3 h1, by rw [flush_len]; exact h2, (fun x hx => by cases hx), Nat.zero_le _⟩
    · exact ⟨h1, h2, h3, by omega⟩
theorem acts_ok (l : List MAct) : ∀ {s : SL × WL} {i : Nat}, okSt s i → okSt (l.foldl stepA s) (i + l.length) := by
  induction l with
  | nil => intro s i h; exact h
  | cons a l ih =>
    intro s i h
    have := ih (step_ok h a)
    rw [List.foldl_cons, List.length_cons]
    have e : i + 1 + l.length = i + (l.length + 1) := by omega
    rw [e] at this; exact this
end Go.Ab
namespace Go.Proofs.Ytlmgdpaajongbaa
open Go.Ab.M Go.Ab Go
def obN (cc : Option Nat) : Blk := .cells true 145 4 [.slice (some (1, 0)) 4 cc, .slice none 0 (some 0), .bool false, .ptr none]
def obK (cc : Option Nat) (k : Nat) : Blk := .cells true 145 4 [.slice (some (1, 0)) 4 cc, .slice (some (2, 0)) k none, .bool false, .ptr none]
def acB (cc : Option Nat) (s : SL × WL) : List Blk := match s.2 with
  | [] => [obN cc, .cells true 151 8 (encL s.1)]
  | w => [obK cc w.length, .cells true 151 8 (encL s.1), .cells true 48 (w.length * 2) (encW w)]
theorem acB_K (cc : Option Nat) (l : SL) {w : WL} (h : w ≠ []) : acB cc (l, w) = [obK cc w.length, .cells true 151 8 (encL l), .cells true 48 (w.length * 2) (encW w)] := by
  cases w with
  | nil => exact absurd rfl h
  | cons x w => rfl
def acL : ZLoop := ⟨161, blockOf Try.f4 0, [1, 2, 7, 42, 43, 44], 0, [], fun vs bs => match vs, bs with
  | [.fsl kn kl kc, .bool al, .ptr (some (0, 0)), .fsl ln n cs, .int .i64 (.ofNat m), .int .i64 (.ofNat i)], [.cells true 145 4 [.slice (some (1, 0)) 4 cc, .slice none 0 (some 0), .bool false, .ptr none], .cells true 151 8 ls] =>
    .node (actN ls cs)
      (.leaf ([AV.plainL kc, isL ls, isA cs, Nat.beq ls.length 8, Nat.beq cs.length (n * 4), Nat.beq m n, Nat.beq i 0, Nat.ble n 60], .normal, [.fsl kn kl kc, .bool al, .ptr (some (0, 0)), .fsl ln n cs, .int .i64 (Int.ofNat n), .int .i64 (Int.ofNat n)], [.cells true 145 4 [.slice (some (1, 0)) 4 cc, .slice none 0 (some 0), .bool false, .ptr none], .cells true 151 8 (kept (actL ls cs))]))
      (.leaf ([AV.plainL kc, isL ls, isA cs, Nat.beq ls.length 8, Nat.beq cs.length (n * 4), Nat.beq m n, Nat.beq i 0, Nat.ble n 60], .normal, [.fsl kn kl kc, .bool al, .ptr (some (0, 0)), .fsl ln n cs, .int .i64 (Int.ofNat n), .int .i64 (Int.ofNat n)], [.cells true 145 4 [.slice (some (1, 0)) 4 cc, .slice (some (2, 0)) (kept (actK ls cs)) none, .bool false, .ptr none], .cells true 151 8 (kept (actL ls cs)), .cells true 48 (kept (actK ls cs) * 2) (kept (actW ls cs))]))
  | _, _ => .no⟩
theorem acN_w (cc : Option Nat) (kn : Bool) (kl : Nat) (kc : List AV) (al : Bool) (ln : Bool) (n : Nat) (cs : List AV) (ls : List AV) (m : Nat) (i : Nat) (E : AX → List AV → List Blk → Prop) (h :
    (iltB (Int.ofNat i) (Int.ofNat m) → i.succ.ble n ∧ cs.length.beq (n.mul 4) ∧ Nat.ble 4 (List.drop (i * 4) cs).length ∧ Nat.ble 1 (List.drop (i * 4) cs).length ∧ AV.isInt .i64 (cA (List.drop (i * 4) cs) 0) ∧ Nat.ble 2 (List.drop (i * 4) cs).length ∧ AV.isInt .i64 (cA (List.drop (i * 4) cs) 1) ∧ Nat.ble 3 (List.drop (i * 4) cs).length ∧ AV.isInt .i64 (cA (List.drop (i * 4) cs) 2) ∧ Nat.ble 4 (List.drop (i * 4) cs).length ∧ (cA (List.drop (i * 4) cs) 3).isFsl ∧ (ileB (Int.ofNat 0) (cA (List.drop (i * 4) cs) 0).intOf → (iltB (cA (List.drop (i * 4) cs) 0).intOf (Int.ofNat 3) → (ieqB (cA (List.drop (i * 4) cs) 0).intOf (Int.ofNat 0) → (okP false 4 (cA (List.drop (i * 4) cs) 1).intOf (cA (List.drop (i * 4) cs) 2).intOf → AV.plainL (cA (List.drop (i * 4) cs) 3).fslCells ∧ AV.plainL ls ∧ AV.plainL (cA (List.drop (i * 4) cs) 3).fslCells ∧ AV.plainL ls ∧ isL ls ∧ ls.length.beq 8 ∧ AV.plainL ls ∧ AV.plainL (kept (pushW [] (cA (List.drop (i * 4) cs) 1).intOf (secA (cA (List.drop (i * 4) cs) 2).intOf))) ∧ AV.plainL kc ∧ AV.plainL cs ∧ AV.plainL ls ∧ AV.plainL (kept (pushW [] (cA (List.drop (i * 4) cs) 1).intOf (secA (cA (List.drop (i * 4) cs) 2).intOf))) ∧ E .normal ([.fsl kn kl kc, .bool al, .ptr (some (0, 0)), .fsl ln n cs, .int .i64 (Int.ofNat m), .int .i64 (wrapA .i64 ((Int.ofNat i).add (Int.ofNat 1)))]) ([.cells true 145 4 [.slice (some (1, 0)) 4 cc, .slice (some (2, 0)) 1 none, .bool false, .ptr none], .cells true 151 8 ls, .cells true 48 2 (kept (pushW [] (cA (List.drop (i * 4) cs) 1).intOf (secA (cA (List.drop (i * 4) cs) 2).intOf)))])) ∧ (okP false 4 (cA (List.drop (i * 4) cs) 1).intOf (cA (List.drop (i * 4) cs) 2).intOf = false → AV.plainL (cA (List.drop (i * 4) cs) 3).fslCells ∧ AV.plainL ls ∧ AV.plainL (cA (List.drop (i * 4) cs) 3).fslCells ∧ AV.plainL ls ∧ isL ls ∧ ls.length.beq 8 ∧ AV.plainL ls ∧ AV.plainL kc ∧ AV.plainL cs ∧ AV.plainL ls ∧ E .normal ([.fsl kn kl kc, .bool al, .ptr (some (0, 0)), .fsl ln n cs, .int .i64 (Int.ofNat m), .int .i64 (wrapA .i64 ((Int.ofNat i).add (Int.ofNat 1)))]) ([.cells true 145 4 [.slice (some (1, 0)) 4 cc, .slice none 0 (some 0), .bool false, .ptr none], .cells true 151 8 ls]))) ∧ (ieqB (cA (List.drop (i * 4) cs) 0).intOf (Int.ofNat 0) = false → (ieqB (cA (List.drop (i * 4) cs) 0).intOf (Int.ofNat 1) → AV.plainL (cA (List.drop (i * 4) cs) 3).fslCells ∧ AV.plainL ls ∧ AV.plainL (cA (List.drop (i * 4) cs) 3).fslCells ∧ AV.plainL ls ∧ isL ls ∧ ls.length.beq 8 ∧ AV.plainL ls ∧ AV.plainL kc ∧ AV.plainL cs ∧ AV.plainL ls ∧ E .normal ([.fsl kn kl kc, .bool al, .ptr (some (0, 0)), .fsl ln n cs, .int .i64 (Int.ofNat m), .int .i64 (wrapA .i64 ((Int.ofNat i).add (Int.ofNat 1)))]) ([.cells true 145 4 [.slice (some (1, 0)) 4 cc, .slice none 0 (some 0), .bool false, .ptr none], .cells true 151 8 ls])) ∧ (ieqB (cA (List.drop (i * 4) cs) 0).intOf (Int.ofNat 1) = false → ieqB (cA (List.drop (i * 4) cs) 0).intOf (Int.ofNat 2) ∧ AV.plainL (cA (List.drop (i * 4) cs) 3).fslCells ∧ AV.plainL ls ∧ AV.plainL (cA (List.drop (i * 4) cs) 3).fslCells ∧ AV.plainL ls ∧ isL ls ∧ ls.length.beq 8 ∧ AV.plainL ls ∧ AV.plainL kc ∧ AV.plainL cs ∧ AV.plainL ls ∧ E .normal ([.fsl kn kl kc, .bool al, .ptr (some (0, 0)), .fsl ln n cs, .int .i64 (Int.ofNat m), .int .i64 (wrapA .i64 ((Int.ofNat i).add (Int.ofNat 1)))]) ([.cells true 145 4 [.slice (some (1, 0)) 4 cc, .slice none 0 (some 0), .bool false, .ptr none], .cells true 151 8 ls])))) ∧ (iltB (cA (List.drop (i * 4) cs) 0).intOf (Int.ofNat 3) = false → AV.plainL kc ∧ AV.plainL cs ∧ AV.plainL ls ∧ E .normal ([.fsl kn kl kc, .bool al, .ptr (some (0, 0)), .fsl ln n cs, .int .i64 (Int.ofNat m), .int .i64 (wrapA .i64 ((Int.ofNat i).add (Int.ofNat 1)))]) ([.cells true 145 4 [.slice (some (1, 0)) 4 cc, .slice none 0 (some 0), .bool false, .ptr none], .cells true 151 8 ls]))) ∧ (ileB (Int.ofNat 0) (cA (List.drop (i * 4) cs) 0).intOf = false → AV.plainL kc ∧ AV.plainL cs ∧ AV.plainL ls ∧ E .normal ([.fsl kn kl kc, .bool al, .ptr (some (0, 0)), .fsl ln n cs, .int .i64 (Int.ofNat m), .int .i64 (wrapA .i64 ((Int.ofNat i).add (Int.ofNat 1)))]) ([.cells true 145 4 [.slice (some (1, 0)) 4 cc, .slice none 0 (some 0), .bool false, .ptr none], .cells true 151 8 ls]))) ∧ (iltB (Int.ofNat i) (Int.ofNat m) = false → AV.plainL kc ∧ AV.plainL cs ∧ AV.plainL ls ∧ E (.exit 0) ([.fsl kn kl kc, .bool al, .ptr (some (0, 0)), .fsl ln n cs, .int .i64 (Int.ofNat m), .int .i64 (Int.ofNat i)]) ([.cells true 145 4 [.slice (some (1, 0)) 4 cc, .slice none 0 (some 0), .bool false, .ptr none], .cells true 151 8 ls]))) :
    ∃ q, roundS tys fns KM14 40 4 40 acL (roundOf (blockOf Try.f4 0)) 2 ([.fsl kn kl kc, .bool al, .ptr (some (0, 0)), .fsl ln n cs, .int .i64 (Int.ofNat m), .int .i64 (Int.ofNat i)], [.cells true 145 4 [.slice (some (1, 0)) 4 cc, .slice none 0 (some 0), .bool false, .ptr none], .cells true 151 8 ls]) q (fun x _ => E x.1 x.2.1 x.2.2) := wp_of (qN [4, 2, 4, 0, 0, 0, 0, 0, 0, 0, 0, 0, 0, 0, 9, 2, 12, 2, 12, 2, 2, 9, 0, 6, 0, 4, 0, 6, 0, 0, 0, 11, 0, 4, 0, 7, 0, 4, 0, 7, 0, 4, 0, 3, 9, 0, 6, 0, 4, 0, 6, 0, 0, 0, 10, 0, 7, 0, 4, 0, 6, 0, 3, 2, 9, 0, 6, 0, 4, 0, 6, 0, 0, 0, 10, 0, 7, 0, 4, 0, 6, 0, 3, 0, 10, 0, 6, 0, 4, 0, 6, 0, 0, 0, 10, 0, 7, 0, 4, 0, 6, 0, 3, 7, 0, 4, 0, 6, 0, 3, 14, 0, 4, 0, 6, 0, 3, 7, 0, 4, 0, 6, 0, 3]) (by kernel_rfl) h
theorem acK_w (cc : Option Nat) (kn : Bool) (kl : Nat) (kc : List AV) (al : Bool) (ln : Bool) (n : Nat) (cs : List AV) (ls : List AV) (k : Nat) (ks : List AV) (m : Nat) (i : Nat) (E : AX → List AV → List Blk → Prop) (h :
    (iltB (Int.ofNat i) (Int.ofNat m) → i.succ.ble n ∧ cs.length.beq (n.mul 4) ∧ Nat.ble 4 (List.drop (i * 4) cs).length ∧ Nat.ble 1 (List.drop (i * 4) cs).length ∧ AV.isInt .i64 (cA (List.drop (i * 4) cs) 0) ∧ Nat.ble 2 (List.drop (i * 4) cs).length ∧ AV.isInt .i64 (cA (List.drop (i * 4) cs) 1) ∧ Nat.ble 3 (List.drop (i * 4) cs).length ∧ AV.isInt .i64 (cA (List.drop (i * 4) cs) 2) ∧ Nat.ble 4 (List.drop (i * 4) cs).length ∧ (cA (List.drop (i * 4) cs) 3).isFsl ∧ (ileB (Int.ofNat 0) (cA (List.drop (i * 4) cs) 0).intOf → (iltB (cA (List.drop (i * 4) cs) 0).intOf (Int.ofNat 3) → (ieqB (cA (List.drop (i * 4) cs) 0).intOf (Int.ofNat 0) → (okP false 4 (cA (List.drop (i * 4) cs) 1).intOf (cA (List.drop (i * 4) cs) 2).intOf → AV.plainL (cA (List.drop (i * 4) cs) 3).fslCells ∧ AV.plainL ls ∧ AV.plainL ks ∧ AV.plainL (cA (List.drop (i * 4) cs) 3).fslCells ∧ AV.plainL ls ∧ AV.plainL ks ∧ isL ls ∧ ls.length.beq 8 ∧ isW 4 ks ∧ ks.length.beq (k * 2) ∧ (k * 2).beq (k * 2) ∧ k.ble 100000 ∧ Nat.ble 1 k ∧ AV.plainL ls ∧ AV.plainL (kept (pushW ks (cA (List.drop (i * 4) cs) 1).intOf (secA (cA (List.drop (i * 4) cs) 2).intOf))) ∧ AV.plainL kc ∧ AV.plainL cs ∧ AV.plainL ls ∧ AV.plainL (kept (pushW ks (cA (List.drop (i * 4) cs) 1).intOf (secA (cA (List.drop (i * 4) cs) 2).intOf))) ∧ E .normal ([.fsl kn kl kc, .bool al, .ptr (some (0, 0)), .fsl ln n cs, .int .i64 (Int.ofNat m), .int .i64 (wrapA .i64 ((Int.ofNat i).add (Int.ofNat 1)))]) ([.cells true 145 4 [.slice (some (1, 0)) 4 cc, .slice (some (2, 0)) (k + 1) none, .bool false, .ptr none], .cells true 151 8 ls, .cells true 48 ((k + 1) * 2) (kept (pushW ks (cA (List.drop (i * 4) cs) 1).intOf (secA (cA (List.drop (i * 4) cs) 2).intOf)))])) ∧ (okP false 4 (cA (List.drop (i * 4) cs) 1).intOf (cA (List.drop (i * 4) cs) 2).intOf = false → AV.plainL (cA (List.drop (i * 4) cs) 3).fslCells ∧ AV.plainL ls ∧ AV.plainL ks ∧ AV.plainL (cA (List.drop (i * 4) cs) 3).fslCells ∧ AV.plainL ls ∧ AV.plainL ks ∧ isL ls ∧ ls.length.beq 8 ∧ isW 4 ks ∧ ks.length.beq (k * 2) ∧ (k * 2).beq (k * 2) ∧ k.ble 100000 ∧ Nat.ble 1 k ∧ AV.plainL ls ∧ AV.plainL ks ∧ AV.plainL kc ∧ AV.plainL cs ∧ AV.plainL ls ∧ AV.plainL ks ∧ E .normal ([.fsl kn kl kc, .bool al, .ptr (some (0, 0)), .fsl ln n cs, .int .i64 (Int.ofNat m), .int .i64 (wrapA .i64 ((Int.ofNat i).add (Int.ofNat 1)))]) ([.cells true 145 4 [.slice (some (1, 0)) 4 cc, .slice (some (2, 0)) k none, .bool false, .ptr none], .cells true 151 8 ls, .cells true 48 (k * 2) ks]))) ∧ (ieqB (cA (List.drop (i * 4) cs) 0).intOf (Int.ofNat 0) = false → (ieqB (cA (List.drop (i * 4) cs) 0).intOf (Int.ofNat 1) → AV.plainL (cA (List.drop (i * 4) cs) 3).fslCells ∧ AV.plainL ls ∧ AV.plainL ks ∧ AV.plainL (cA (List.drop (i * 4) cs) 3).fslCells ∧ AV.plainL ls ∧ AV.plainL ks ∧ isL ls ∧ ls.length.beq 8 ∧ isW 4 ks ∧ ks.length.beq (k * 2) ∧ (k * 2).beq (k * 2) ∧ k.ble 100000 ∧ Nat.ble 1 k ∧ AV.plainL ls ∧ AV.plainL ks ∧ AV.plainL kc ∧ AV.plainL cs ∧ AV.plainL ls ∧ AV.plainL ks ∧ E .normal ([.fsl kn kl kc, .bool al, .ptr (some (0, 0)), .fsl ln n cs, .int .i64 (Int.ofNat m), .int .i64 (wrapA .i64 ((Int.ofNat i).add (Int.ofNat 1)))]) ([.cells true 145 4 [.slice (some (1, 0)) 4 cc, .slice (some (2, 0)) k none, .bool false, .ptr none], .cells true 151 8 ls, .cells true 48 (k * 2) ks])) ∧ (ieqB (cA (List.drop (i * 4) cs) 0).intOf (Int.ofNat 1) = false → ieqB (cA (List.drop (i * 4) cs) 0).intOf (Int.ofNat 2) ∧ AV.plainL (cA (List.drop (i * 4) cs) 3).fslCells ∧ AV.plainL ls ∧ AV.plainL ks ∧ AV.plainL (cA (List.drop (i * 4) cs) 3).fslCells ∧ AV.plainL ls ∧ AV.plainL ks ∧ isL ls ∧ ls.length.beq 8 ∧ isW 4 ks ∧ ks.length.beq (k * 2) ∧ (k * 2).beq (k * 2) ∧ k.ble 100000 ∧ Nat.ble 1 k ∧ AV.plainL (kept (flushL ls ks)) ∧ AV.plainL ks ∧ AV.plainL kc ∧ AV.plainL cs ∧ AV.plainL (kept (flushL ls ks)) ∧ E .normal ([.fsl kn kl kc, .bool al, .ptr (some (0, 0)), .fsl ln n cs, .int .i64 (Int.ofNat m), .int .i64 (wrapA .i64 ((Int.ofNat i).add (Int.ofNat 1)))]) ([.cells true 145 4 [.slice (some (1, 0)) 4 cc, .slice none 0 (some 0), .bool false, .ptr none], .cells true 151 8 (kept (flushL ls ks))])))) ∧ (iltB (cA (List.drop (i * 4) cs) 0).intOf (Int.ofNat 3) = false → AV.plainL kc ∧ AV.plainL cs ∧ AV.plainL ls ∧ AV.plainL ks ∧ E .normal ([.fsl kn kl kc, .bool al, .ptr (some (0, 0)), .fsl ln n cs, .int .i64 (Int.ofNat m), .int .i64 (wrapA .i64 ((Int.ofNat i).add (Int.ofNat 1)))]) ([.cells true 145 4 [.slice (some (1, 0)) 4 cc, .slice (some (2, 0)) k none, .bool false, .ptr none], .cells true 151 8 ls, .cells true 48 (k * 2) ks]))) ∧ (ileB (Int.ofNat 0) (cA (List.drop (i * 4) cs) 0).intOf = false → AV.plainL kc ∧ AV.plainL cs ∧ AV.plainL ls ∧ AV.plainL ks ∧ E .normal ([.fsl kn kl kc, .bool al, .ptr (some (0, 0)), .fsl ln n cs, .int .i64 (Int.ofNat m), .int .i64 (wrapA .i64 ((Int.ofNat i).add (Int.ofNat 1)))]) ([.cells true 145 4 [.slice (some (1, 0)) 4 cc, .slice (some (2, 0)) k none, .bool false, .ptr none], .cells true 151 8 ls, .cells true 48 (k * 2) ks]))) ∧ (iltB (Int.ofNat i) (Int.ofNat m) = false → AV.plainL kc ∧ AV.plainL cs ∧ AV.plainL ls ∧ AV.plainL ks ∧ E (.exit 0) ([.fsl kn kl kc, .bool al, .ptr (some (0, 0)), .fsl ln n cs, .int .i64 (Int.ofNat m), .int .i64 (Int.ofNat i)]) ([.cells true 145 4 [.slice (some (1, 0)) 4 cc, .slice (some (2, 0)) k none, .bool false, .ptr none], .cells true 151 8 ls, .cells true 48 (k * 2) ks]))) :
    ∃ q, roundS tys fns KM14 40 4 40 acL (roundOf (blockOf Try.f4 0)) 2 ([.fsl kn kl kc, .bool al, .ptr (some (0, 0)), .fsl ln n cs, .int .i64 (Int.ofNat m), .int .i64 (Int.ofNat i)], [.cells true 145 4 [.slice (some (1, 0)) 4 cc, .slice (some (2, 0)) k none, .bool false, .ptr none], .cells true 151 8 ls, .cells true 48 (k * 2) ks]) q (fun x _ => E x.1 x.2.1 x.2.2) := wp_of (qN [4, 2, 4, 0, 0, 0, 0, 0, 0, 0, 0, 0, 0, 0, 9, 2, 12, 2, 12, 2, 2, 11, 0, 7, 0, 4, 0, 4, 0, 7, 0, 4, 0, 0, 0, 6, 0, 0, 0, 0, 0, 8, 0, 4, 0, 7, 0, 4, 0, 7, 0, 4, 0, 3, 11, 0, 7, 0, 4, 0, 4, 0, 7, 0, 4, 0, 0, 0, 6, 0, 0, 0, 0, 0, 8, 0, 4, 0, 7, 0, 4, 0, 7, 0, 4, 0, 3, 2, 11, 0, 7, 0, 4, 0, 4, 0, 7, 0, 4, 0, 0, 0, 6, 0, 0, 0, 0, 0, 8, 0, 4, 0, 7, 0, 4, 0, 7, 0, 4, 0, 3, 0, 12, 0, 7, 0, 4, 0, 4, 0, 7, 0, 4, 0, 0, 0, 6, 0, 0, 0, 0, 0, 7, 0, 4, 0, 7, 0, 4, 0, 6, 0, 3, 7, 0, 4, 0, 7, 0, 4, 0, 3, 14, 0, 4, 0, 7, 0, 4, 0, 3, 7, 0, 4, 0, 7, 0, 4, 0, 3]) (by kernel_rfl) h
def acV (kn : Bool) (kl : Nat) (kc : List AV) (al ln : Bool) (l : List MAct) (i : Nat) : List AV := [.fsl kn kl kc, .bool al, .ptr (some (0, 0)), .fsl ln l.length (encA l), .int .i64 (Int.ofNat l.length), .int .i64 (Int.ofNat i)]
abbrev AcP := Option Nat × Bool × Nat × List AV × Bool × Bool × List MAct × SL × Nat
def acEnc : AcP → ZSt := fun (cc, kn, kl, kc, al, ln, l, l0, i) => (acV kn kl kc al ln l i, acB cc ((l.take i).foldl stepA (l0, [])))
def acOk : AcP → Prop := fun (cc, kn, kl, kc, al, ln, l, l0, i) => AV.plainL kc = true ∧ okL l0 ∧ l0.length = 4 ∧ i ≤ l.length ∧ l.length ≤ 60
def acMeas : AcP → Nat := fun (cc, kn, kl, kc, al, ln, l, l0, i) => l.length - i
def acFin : AcP → AX × ZSt := fun (cc, kn, kl, kc, al, ln, l, l0, i) => (.exit 0, acV kn kl kc al ln l l.length, acB cc (l.foldl stepA (l0, [])))
theorem acL_ok : acL.OK Try.prog (tyCx tys) (flOf tys) 0 := by
  refine ZLoop.wp (cxZ cx_goes) allM14 4 40 40 (b := roundOf (blockOf Try.f4 0)) (by kernel_rfl) (by kernel_rfl) acEnc acOk (fun _ => 2) acMeas acFin ?_ ?_
  · intro vs bs conds X vs' bs' h hc hin
    simp only [acL] at h
    split at h
    · rename_i kn kl kc al ln n cs m i cc ls
      cases hn : actN ls cs <;> simp only [DT.m_node, DT.m_leaf, hn, cb_true, cb_false] at h
      all_goals
        obtain ⟨rfl, rfl, rfl, rfl⟩ := some5 h
        simp only [allTrue_cons, nbeq_iff, nble_iff] at hc
        obtain ⟨c0, c1, c2, c3, c4, rfl, rfl, c5, _⟩ := hc
        obtain ⟨l0, rfl, hl⟩ := isL_iff.1 c1
        obtain ⟨l, rfl⟩ := isA_iff.1 c2
        rw [encL_length] at c3
        rw [encA_length] at c4
        have c4 : m = l.length := by omega
        subst c4
        refine ⟨(cc, kn, kl, kc, al, ln, l, l0, 0), ⟨c0, hl, by omega, Nat.zero_le _, c5⟩, rfl, rfl, rfl, ?_⟩
        have es : actS (encL l0) (encA l) = l.foldl stepA (l0, []) := by unfold actS; rw [decA_encA, decL_encL]
        simp only [kept_eq, actK, actL, actW, es]
        simp only [actN, es] at hn
        show _ = (acV kn kl kc al ln l l.length, acB cc (l.foldl stepA (l0, [])))
        generalize l.foldl stepA (l0, []) = se at *
        obtain ⟨sl, w⟩ := se
        simp only at hn
      · rw [acB_K cc sl (by rintro rfl; cases hn)]; rfl
      · cases w with
        | nil => rfl
        | cons x w => cases hn
    · cases h
  · rintro ⟨cc, kn, kl, kc, al, ln, l, l0, i⟩ ⟨hp, hl0, hl4, hi, hk⟩
    have inv : okSt ((l.take i).foldl stepA (l0, [])) (0 + (l.take i).length) := acts_ok (l.take i) ⟨hl0, hl4, (fun x hx => by cases hx), Nat.zero_le _⟩
    rw [List.length_take, Nat.min_eq_left hi, Nat.zero_add] at inv
    have hfin : ¬ i < l.length → acEnc (cc, kn, kl, kc, al, ln, l, l0, i) = (acFin (cc, kn, kl, kc, al, ln, l, l0, i)).2 := by
      intro h
      have hi : i = l.length := by omega
      subst hi
      show (_, acB cc ((l.take l.length).foldl stepA (l0, []))) = _
      rw [List.take_length]; rfl
    have go : i < l.length → ∀ (h : i < l.length) s', stepA ((l.take i).foldl stepA (l0, [])) l[i] = s' → Stp acEnc acOk (fun _ => 2) acMeas acFin (cc, kn, kl, kc, al, ln, l, l0, i) .normal (acV kn kl kc al ln l (i + 1)) (acB cc s') := by
      rintro _ h s' rfl
      rw [← foldl_take stepA l (l0, []) i h]
      exact Stp.go (cc, kn, kl, kc, al, ln, l, l0, i + 1) ⟨hp, hl0, hl4, h, hk⟩ (by show l.length - (i + 1) < l.length - i; omega) rfl
    show ∃ q, roundS tys fns KM14 40 4 40 acL (roundOf (blockOf Try.f4 0)) 2 (acV kn kl kc al ln l i, acB cc ((l.take i).foldl stepA (l0, []))) q _
    change _ → acEnc (cc, kn, kl, kc, al, ln, l, l0, i) = _ at hfin
    rw [show acEnc (cc, kn, kl, kc, al, ln, l, l0, i) = (acV kn kl kc al ln l i, acB cc ((l.take i).foldl stepA (l0, []))) from rfl] at hfin
    generalize (l.take i).foldl stepA (l0, []) = s at *
    obtain ⟨sl, w⟩ := s
    obtain ⟨h1, h2, h3, h4⟩ := inv
    simp only at h1 h2 h3 h4
    have p1 := encL_plain sl
    have p2 := encA_plain l
    have e8 : (encL sl).length = 8 := by rw [encL_length, h2]
    by_cases h : i < l.length
    · have d := drop_encA l i h
      have dl : (List.drop (i * 4) (encA l)).length = (l.length - i) * 4 := by rw [List.length_drop, encA_length]; omega
      have e0 : cA (List.drop (i * 4) (encA l)) 0 = .int .i64 l[i].k := by rw [d]; rfl
      have e1 : cA (List.drop (i * 4) (encA l)) 1 = .int .i64 l[i].at_ := by rw [d]; rfl
      have e2 : cA (List.drop (i * 4) (encA l)) 2 = .int .i64 l[i].x := by rw [d]; rfl
      have e3 : cA (List.drop (i * 4) (encA l)) 3 = .fsl l[i].nl l[i].keep.length (encB l[i].keep) := by rw [d]; rfl
      have p3 := encB_plain l[i].keep
      have go := go h h
      have same : ∀ (hne : stepA (sl, w) l[i] = (sl, w)), Stp acEnc acOk (fun _ => 2) acMeas acFin (cc, kn, kl, kc, al, ln, l, l0, i) .normal (acV kn kl kc al ln l (i + 1)) (acB cc (sl, w)) := fun hne => go _ hne
      cases w with
      | nil =>
        refine acN_w cc kn kl kc al ln l.length (encA l) (encL sl) l.length i _ ⟨fun _ => ?_, fun h' => absurd (ge_nat h') (by omega)⟩
        simp only [e0, e1, e2, e3, dl, e8, AV.intOf, AV.fslLen, AV.fslCells, kept_eq, wrap_inc (show i < 9223372036854775807 by omega)]
        refine ⟨nble_iff.2 h, nbeq_iff.2 (encA_length _), nble_iff.2 (by omega), nble_iff.2 (by omega), rfl, nble_iff.2 (by omega), rfl, nble_iff.2 (by omega), rfl, nble_iff.2 (by omega), rfl, fun g0 => ⟨fun g1 => ⟨fun g2 => ⟨fun g3 => ?_, fun g3 => ?_⟩, fun g2 => ⟨fun g3 => ?_, fun g3 => ?_⟩⟩, fun g1 => ?_⟩, fun g0 => ?_⟩
        · have e2' := p1
          have ew := e8
          and_intros
          all_goals with_reducible first
            | assumption
            | exact pushW_plain _ _ _
            | exact flushL_plain _ _
            | exact encW_plain _
            | exact isL_enc h1
            | exact isW_enc h3
            | exact e2'
            | exact nbeq_iff.2 e8
            | exact nbeq_iff.2 ew
            | exact nbeq_iff.2 rfl
            | exact nble_iff.2 (by omega)
            | exact nble_iff.2 (Nat.succ_le_succ (Nat.zero_le _))
            | skip
          have st : stepA (sl, []) l[i] = (sl, [] ++ [(l[i].at_, secB l[i].x 512)]) := by simp only [stepA, g2, g3, if_true]
          have key := go _ st
          rw [pushA_nil]
          exact key
        · have e2' := p1
          have ew := e8
          and_intros
          all_goals with_reducible first
            | assumption
            | exact pushW_plain _ _ _
            | exact flushL_plain _ _
            | exact encW_plain _
            | exact isL_enc h1
            | exact isW_enc h3
            | exact e2'
            | exact nbeq_iff.2 e8
            | exact nbeq_iff.2 ew
            | exact nbeq_iff.2 rfl
            | exact nble_iff.2 (by omega)
            | exact nble_iff.2 (Nat.succ_le_succ (Nat.zero_le _))
            | skip
          exact same (by simp only [stepA, g2, g3, if_true, Bool.false_eq_true, if_false])
        · have e2' := p1
          have ew := e8
          and_intros
          all_goals with_reducible first
            | assumption
            | exact pushW_plain _ _ _
            | exact flushL_plain _ _
            | exact encW_plain _
            | exact isL_enc h1
            | exact isW_enc h3
            | exact e2'
            | exact nbeq_iff.2 e8
            | exact nbeq_iff.2 ew
            | exact nbeq_iff.2 rfl
            | exact nble_iff.2 (by omega)
            | exact nble_iff.2 (Nat.succ_le_succ (Nat.zero_le _))
            | skip
          exact same (by simp only [stepA, g2, ieq_12 g3, Bool.false_eq_true, if_false])
        · have hk2 : ieqB l[i].k (Int.ofNat 2) = true := ieq_2 g0 g1 g2 g3
          have e2' := hk2
          have ew := e8
          and_intros
          all_goals with_reducible first
            | assumption
            | exact pushW_plain _ _ _
            | exact flushL_plain _ _
            | exact encW_plain _
            | exact isL_enc h1
            | exact isW_enc h3
            | exact e2'
            | exact nbeq_iff.2 e8
            | exact nbeq_iff.2 ew
            | exact nbeq_iff.2 rfl
            | exact nble_iff.2 (by omega)
            | exact nble_iff.2 (Nat.succ_le_succ (Nat.zero_le _))
            | skip
          exact go _ (show stepA (sl, []) l[i] = (sl, []) by simp only [stepA, g2, hk2, Bool.false_eq_true, if_false, if_true]; rfl)
        · have e2' := p1
          have ew := e8
          and_intros
          all_goals with_reducible first
            | assumption
            | exact pushW_plain _ _ _
            | exact flushL_plain _ _
            | exact encW_plain _
            | exact isL_enc h1
            | exact isW_enc h3
            | exact e2'
            | exact nbeq_iff.2 e8
            | exact nbeq_iff.2 ew
            | exact nbeq_iff.2 rfl
            | exact nble_iff.2 (by omega)
            | exact nble_iff.2 (Nat.succ_le_succ (Nat.zero_le _))
            | skip
          exact same (by simp only [stepA, ieq_g g1 (show 0 < 3 by decide), ieq_g g1 (show 2 < 3 by decide), Bool.false_eq_true, if_false])
        · have e2' := p1
          have ew := e8
          and_intros
          all_goals with_reducible first
            | assumption
            | exact pushW_plain _ _ _
            | exact flushL_plain _ _
            | exact encW_plain _
            | exact isL_enc h1
            | exact isW_enc h3
            | exact e2'
            | exact nbeq_iff.2 e8
            | exact nbeq_iff.2 ew
            | exact nbeq_iff.2 rfl
            | exact nble_iff.2 (by omega)
            | exact nble_iff.2 (Nat.succ_le_succ (Nat.zero_le _))
            | skip
          exact same (by simp only [stepA, ieq_l g0 0, ieq_l g0 2, Bool.false_eq_true, if_false])
      | cons y w =>
        refine acK_w cc kn kl kc al ln l.length (encA l) (encL sl) (y :: w).length (encW (y :: w)) l.length i _ ⟨fun _ => ?_, fun h' => absurd (ge_nat h') (by omega)⟩
        simp only [e0, e1, e2, e3, dl, e8, AV.intOf, AV.fslLen, AV.fslCells, kept_eq, wrap_inc (show i < 9223372036854775807 by omega)]
        refine ⟨nble_iff.2 h, nbeq_iff.2 (encA_length _), nble_iff.2 (by omega), nble_iff.2 (by omega), rfl, nble_iff.2 (by omega), rfl, nble_iff.2 (by omega), rfl, nble_iff.2 (by omega), rfl, fun g0 => ⟨fun g1 => ⟨fun g2 => ⟨fun g3 => ?_, fun g3 => ?_⟩, fun g2 => ⟨fun g3 => ?_, fun g3 => ?_⟩⟩, fun g1 => ?_⟩, fun g0 => ?_⟩
        · have e2' := p1
          have ew := encW_length (y :: w)
          and_intros
          all_goals with_reducible first
            | assumption
            | exact pushW_plain _ _ _
            | exact flushL_plain _ _
            | exact encW_plain _
            | exact isL_enc h1
            | exact isW_enc h3
            | exact e2'
            | exact nbeq_iff.2 e8
            | exact nbeq_iff.2 ew
            | exact nbeq_iff.2 rfl
            | exact nble_iff.2 (by omega)
            | exact nble_iff.2 (Nat.succ_le_succ (Nat.zero_le _))
            | skip
          have st : stepA (sl, (y :: w)) l[i] = (sl, (y :: w) ++ [(l[i].at_, secB l[i].x 512)]) := by simp only [stepA, g2, g3, if_true]
          have key := go _ st
          rw [acB_K cc sl (List.append_ne_nil_of_right_ne_nil _ (List.cons_ne_nil _ _)), List.length_append] at key
          rw [pushA (y :: w)]
          exact key
        · have e2' := p1
          have ew := encW_length (y :: w)
          and_intros
          all_goals with_reducible first
            | assumption
            | exact pushW_plain _ _ _
            | exact flushL_plain _ _
            | exact encW_plain _
            | exact isL_enc h1
            | exact isW_enc h3
            | exact e2'
            | exact nbeq_iff.2 e8
            | exact nbeq_iff.2 ew
            | exact nbeq_iff.2 rfl
            | exact nble_iff.2 (by omega)
            | exact nble_iff.2 (Nat.succ_le_succ (Nat.zero_le _))
            | skip
          exact same (by simp only [stepA, g2, g3, if_true, Bool.false_eq_true, if_false])
        · have e2' := p1
          have ew := encW_length (y :: w)
          and_intros
          all_goals with_reducible first
            | assumption
            | exact pushW_plain _ _ _
            | exact flushL_plain _ _
            | exact encW_plain _
            | exact isL_enc h1
            | exact isW_enc h3
            | exact e2'
            | exact nbeq_iff.2 e8
            | exact nbeq_iff.2 ew
            | exact nbeq_iff.2 rfl
            | exact nble_iff.2 (by omega)
            | exact nble_iff.2 (Nat.succ_le_succ (Nat.zero_le _))
            | skip
          exact same (by simp only [stepA, g2, ieq_12 g3, Bool.false_eq_true, if_false])
        · have hk2 : ieqB l[i].k (Int.ofNat 2) = true := ieq_2 g0 g1 g2 g3
          have e2' := hk2
          have ew := encW_length (y :: w)
          and_intros
          all_goals with_reducible first
            | assumption
            | exact pushW_plain _ _ _
            | exact flushL_plain _ _
            | exact encW_plain _
            | exact isL_enc h1
            | exact isW_enc h3
            | exact e2'
            | exact nbeq_iff.2 e8
            | exact nbeq_iff.2 ew
            | exact nbeq_iff.2 rfl
            | exact nble_iff.2 (by omega)
            | exact nble_iff.2 (Nat.succ_le_succ (Nat.zero_le _))
            | skip
          have key := go _ (show stepA (sl, y :: w) l[i] = ((y :: w).foldl setl sl, []) by simp only [stepA, g2, hk2, Bool.false_eq_true, if_false, if_true])
          rw [show flushL (encL sl) (encW (y :: w)) = encL ((y :: w).foldl setl sl) from by unfold flushL; rw [decW_encW, decL_encL]]
          exact key
        · have e2' := p1
          have ew := encW_length (y :: w)
          and_intros
          all_goals with_reducible first
            | assumption
            | exact pushW_plain _ _ _
            | exact flushL_plain _ _
            | exact encW_plain _
            | exact isL_enc h1
            | exact isW_enc h3
            | exact e2'
            | exact nbeq_iff.2 e8
            | exact nbeq_iff.2 ew
            | exact nbeq_iff.2 rfl
            | exact nble_iff.2 (by omega)
            | exact nble_iff.2 (Nat.succ_le_succ (Nat.zero_le _))
            | skip
          exact same (by simp only [stepA, ieq_g g1 (show 0 < 3 by decide), ieq_g g1 (show 2 < 3 by decide), Bool.false_eq_true, if_false])
        · have e2' := p1
          have ew := encW_length (y :: w)
          and_intros
          all_goals with_reducible first
            | assumption
            | exact pushW_plain _ _ _
            | exact flushL_plain _ _
            | exact encW_plain _
            | exact isL_enc h1
            | exact isW_enc h3
            | exact e2'
            | exact nbeq_iff.2 e8
            | exact nbeq_iff.2 ew
            | exact nbeq_iff.2 rfl
            | exact nble_iff.2 (by omega)
            | exact nble_iff.2 (Nat.succ_le_succ (Nat.zero_le _))
            | skip
          exact same (by simp only [stepA, ieq_l g0 0, ieq_l g0 2, Bool.false_eq_true, if_false])
    · have hf := hfin h
      cases w with
      | nil =>
        refine acN_w cc kn kl kc al ln l.length (encA l) (encL sl) l.length i _ ⟨fun h' => absurd (lt_nat h') h, fun _ => ⟨hp, p2, p1, Stp.fin ?_⟩⟩
        exact congrArg (fun z => (AX.exit 0, z)) hf
      | cons y w =>
        refine acK_w cc kn kl kc al ln l.length (encA l) (encL sl) (y :: w).length (encW (y :: w)) l.length i _ ⟨fun h' => absurd (lt_nat h') h, fun _ => ⟨hp, p2, p1, encW_plain _, Stp.fin ?_⟩⟩
        exact congrArg (fun z => (AX.exit 0, z)) hf
end Go.Proofs.Ytlmgdpaajongbaa
end
end

section
noncomputable section
namespace Go.Ab
namespace M
def lastR (ls ks : List AV) : List AV := (List.range 4).map fun i => .str (stR false 4 ls ks (Int.ofNat i))
def truesA (k : Nat) : List AV := encB (List.replicate k true)
end M
open M
theorem lastR_len (ls ks : List AV) : (lastR ls ks).length = 4 := by unfold lastR; rw [List.length_map, List.length_range]
theorem lastR_at (ls ks : List AV) (i : Nat) (h : i < 4) : (lastR ls ks)[i]'(by rw [lastR_len]; exact h) = .str (stR false 4 ls ks (Int.ofNat i)) := by
  simp only [lastR, List.getElem_map, List.getElem_range]
theorem rowSet_mid : ∀ (a : List AV) (x y : AV) (b : List AV), rowSet (a ++ x :: b) a.length [y] = a ++ y :: b
  | [], x, y, b => rfl
  | z :: a, x, y, b => by
    show z :: rowSet (a ++ x :: b) a.length [y] = _
    rw [rowSet_mid a x y b]; rfl
theorem last_step (R rs : List AV) (i : Nat) (h : i < R.length) (hl : rs.length = R.length) : rowSet (R.take i ++ rs.drop i) i [R[i]] = R.take (i + 1) ++ rs.drop (i + 1) := by
  have e1 : (R.take i).length = i := by rw [List.length_take]; omega
  rw [List.drop_eq_getElem_cons (show i < rs.length by omega)]
  have := rowSet_mid (R.take i) (rs[i]'(by omega)) R[i] (rs.drop (i + 1))
  rw [e1] at this
  rw [this, List.take_add_one, List.getElem?_eq_getElem h, List.append_assoc]; rfl
theorem plainL_append : ∀ {a b : List AV}, AV.plainL a = true → AV.plainL b = true → AV.plainL (a ++ b) = true
  | [], _, _, h => h
  | x :: a, b, h1, h2 => by
    have h1 : (x.plain && AV.plainL a) = true := h1
    rw [Bool.and_eq_true] at h1
    show (x.plain && AV.plainL (a ++ b)) = true
    rw [h1.1, plainL_append h1.2 h2]; rfl
theorem plainL_mem : ∀ {a : List AV}, (∀ x ∈ a, x.plain = true) → AV.plainL a = true
  | [], _ => rfl
  | x :: a, h => by
    show (x.plain && AV.plainL a) = true
    rw [h x (by simp), plainL_mem fun y hy => h y (by simp [hy])]; rfl
theorem plainL_of : ∀ {a : List AV}, AV.plainL a = true → ∀ x ∈ a, x.plain = true
  | [], _, x, h => by cases h
  | y :: a, h1, x, h => by
    have h1 : (y.plain && AV.plainL a) = true := h1
    rw [Bool.and_eq_true] at h1
    rcases List.mem_cons.1 h with rfl | h
    · exact h1.1
    · exact plainL_of h1.2 x h
theorem lastR_plain (ls ks rs : List AV) (i : Nat) (h : AV.plainL rs = true) : AV.plainL ((lastR ls ks).take i ++ rs.drop i) = true := by
  refine plainL_append (plainL_mem fun x hx => ?_) (plainL_mem fun x hx => plainL_of h x (List.mem_of_mem_drop hx))
  obtain ⟨j, _, rfl⟩ := List.mem_map.1 (List.mem_of_mem_take hx)
  rfl
theorem lastR_end (ls ks rs : List AV) (h : rs.length = 4) : (lastR ls ks).take 4 ++ rs.drop 4 = lastR ls ks := by
  rw [List.take_of_length_le (by rw [lastR_len]; exact Nat.le_refl _), List.drop_of_length_le (by omega), List.append_nil]
theorem ilt_ofNat (i : Nat) : iltB (Int.ofNat i) (Int.ofNat 0) = false := by rw [iltB_eq]; exact decide_eq_false (by show ¬ (i : Int) < 0; omega)
theorem truesA_snoc (k : Nat) : truesA k ++ [AV.bool true] = truesA (k + 1) := by
  unfold truesA encB
  rw [List.replicate_succ', List.map_append]; rfl
theorem truesA_len (k : Nat) : (truesA k).length = k := by unfold truesA; rw [encB_length, List.length_replicate]
end Go.Ab
namespace Go.Proofs.Ytlmgdpaajongbaa
open Go.Ab.M Go.Ab Go
def kpN (vs : List AV) (bs : List Blk) : DT (List Bool × AX × List AV × List Blk) := match vs, bs with
  | [.slice none 0 (some 0), .bool true, .ptr (some (0, 0)), .ptr (some (1, 0)), .slice none 0 (some 0), .slice none 0 (some 0), .int .i64 (.ofNat 0), .int .i64 (.ofNat 0)], [.cells true 145 4 [.slice (some (2, 0)) 4 cc, .slice none 0 (some 0), .bool false, .ptr none], .cells true 145 4 [.slice (some (3, 0)) 4 none, .slice none 0 (some 0), .bool false, .ptr none], .cells true 151 8 ls, .cells true 151 8 l2] => .leaf ([], .normal, [.slice none 0 (some 0), .bool true, .ptr (some (0, 0)), .ptr (some (1, 0)), .slice none 0 (some 0), .slice none 0 (some 0), .int .i64 (Int.ofNat 0), .int .i64 (Int.ofNat 0)], [.cells true 145 4 [.slice (some (2, 0)) 4 cc, .slice none 0 (some 0), .bool false, .ptr none], .cells true 145 4 [.slice (some (3, 0)) 4 none, .slice none 0 (some 0), .bool false, .ptr none], .cells true 151 8 ls, .cells true 151 8 l2])
  | _, _ => .no
def kpK (vs : List AV) (bs : List Blk) : DT (List Bool × AX × List AV × List Blk) := match vs, bs with
  | [.slice none 0 (some 0), .bool true, .ptr (some (0, 0)), .ptr (some (1, 0)), .slice (some (2, 0)) k none, .slice (some (2, 0)) k2 none, .int .i64 (.ofNat m), .int .i64 (.ofNat i)], [.cells true 145 4 [.slice (some (3, 0)) 4 cc, .slice (some (4, 0)) k3 none, .bool false, .ptr none], .cells true 145 4 [.slice (some (5, 0)) 4 none, .slice none 0 (some 0), .bool false, .ptr none], .cells true 48 a js, .cells true 151 8 ls, .cells true 48 b ks, .cells true 151 8 l2] => .leaf ([Nat.beq k2 k, Nat.beq k3 k, Nat.beq a (k * 2), Nat.beq b (k * 2), Nat.beq m k, Nat.beq i 0, Nat.ble 1 k, Nat.ble k 100000], .normal, [.slice (some (6, 0)) k none, .bool true, .ptr (some (0, 0)), .ptr (some (1, 0)), .slice (some (2, 0)) k none, .slice (some (2, 0)) k none, .int .i64 (Int.ofNat k), .int .i64 (Int.ofNat k)], [.cells true 145 4 [.slice (some (3, 0)) 4 cc, .slice (some (4, 0)) k none, .bool false, .ptr none], .cells true 145 4 [.slice (some (5, 0)) 4 none, .slice none 0 (some 0), .bool false, .ptr none], .cells true 48 (k * 2) js, .cells true 151 8 ls, .cells true 48 (k * 2) ks, .cells true 151 8 l2, .cells true 4 k (kept (truesA k))])
  | _, _ => .no
def kpL : ZLoop := ⟨161, blockOf Try.f4 2, [1, 2, 7, 11, 12, 67, 68, 69], 0, [], fun vs bs => (kpN vs bs).or (kpK vs bs)⟩
theorem kpN_w (cc : Option Nat) (ls : List AV) (l2 : List AV) (E : AX → List AV → List Blk → Prop) (h :
    AV.plainL ls ∧ AV.plainL l2 ∧ E (.exit 2) ([.slice none 0 (some 0), .bool true, .ptr (some (0, 0)), .ptr (some (1, 0)), .slice none 0 (some 0), .slice none 0 (some 0), .int .i64 (Int.ofNat 0), .int .i64 (Int.ofNat 0)]) ([.cells true 145 4 [.slice (some (2, 0)) 4 cc, .slice none 0 (some 0), .bool false, .ptr none], .cells true 145 4 [.slice (some (3, 0)) 4 none, .slice none 0 (some 0), .bool false, .ptr none], .cells true 151 8 ls, .cells true 151 8 l2])) :
    ∃ q, roundS tys fns KM14 40 4 40 kpL (roundOf (blockOf Try.f4 2)) 4 ([.slice none 0 (some 0), .bool true, .ptr (some (0, 0)), .ptr (some (1, 0)), .slice none 0 (some 0), .slice none 0 (some 0), .int .i64 (Int.ofNat 0), .int .i64 (Int.ofNat 0)], [.cells true 145 4 [.slice (some (2, 0)) 4 cc, .slice none 0 (some 0), .bool false, .ptr none], .cells true 145 4 [.slice (some (3, 0)) 4 none, .slice none 0 (some 0), .bool false, .ptr none], .cells true 151 8 ls, .cells true 151 8 l2]) q (fun x _ => E x.1 x.2.1 x.2.2) := wp_of (qN [16, 0, 4, 0, 3]) (by kernel_rfl) h
theorem kp0_w (cc : Option Nat) (ls : List AV) (l2 : List AV) (js : List AV) (ks : List AV) (k : Nat) (m : Nat) (E : AX → List AV → List Blk → Prop) (h :
    (iltB (Int.ofNat 0) (Int.ofNat m) → AV.plainL js ∧ AV.plainL ls ∧ AV.plainL ks ∧ AV.plainL l2 ∧ E .normal ([.slice (some (6, 0)) 1 none, .bool true, .ptr (some (0, 0)), .ptr (some (1, 0)), .slice (some (2, 0)) k none, .slice (some (2, 0)) k none, .int .i64 (Int.ofNat m), .int .i64 (Int.ofNat 1)]) ([.cells true 145 4 [.slice (some (3, 0)) 4 cc, .slice (some (4, 0)) k none, .bool false, .ptr none], .cells true 145 4 [.slice (some (5, 0)) 4 none, .slice none 0 (some 0), .bool false, .ptr none], .cells true 48 (k * 2) js, .cells true 151 8 ls, .cells true 48 (k * 2) ks, .cells true 151 8 l2, .cells true 4 1 [.bool true]])) ∧ (iltB (Int.ofNat 0) (Int.ofNat m) = false → AV.plainL js ∧ AV.plainL ls ∧ AV.plainL ks ∧ AV.plainL l2 ∧ E (.exit 2) ([.slice none 0 (some 0), .bool true, .ptr (some (0, 0)), .ptr (some (1, 0)), .slice (some (2, 0)) k none, .slice (some (2, 0)) k none, .int .i64 (Int.ofNat m), .int .i64 (Int.ofNat 0)]) ([.cells true 145 4 [.slice (some (3, 0)) 4 cc, .slice (some (4, 0)) k none, .bool false, .ptr none], .cells true 145 4 [.slice (some (5, 0)) 4 none, .slice none 0 (some 0), .bool false, .ptr none], .cells true 48 (k * 2) js, .cells true 151 8 ls, .cells true 48 (k * 2) ks, .cells true 151 8 l2]))) :
    ∃ q, roundS tys fns KM14 40 4 40 kpL (roundOf (blockOf Try.f4 2)) 6 ([.slice none 0 (some 0), .bool true, .ptr (some (0, 0)), .ptr (some (1, 0)), .slice (some (2, 0)) k none, .slice (some (2, 0)) k none, .int .i64 (Int.ofNat m), .int .i64 (Int.ofNat 0)], [.cells true 145 4 [.slice (some (3, 0)) 4 cc, .slice (some (4, 0)) k none, .bool false, .ptr none], .cells true 145 4 [.slice (some (5, 0)) 4 none, .slice none 0 (some 0), .bool false, .ptr none], .cells true 48 (k * 2) js, .cells true 151 8 ls, .cells true 48 (k * 2) ks, .cells true 151 8 l2]) q (fun x _ => E x.1 x.2.1 x.2.2) := wp_of (qN [4, 2, 24, 0, 4, 0, 4, 0, 4, 0, 5, 3, 17, 0, 4, 0, 4, 0, 4, 0, 3]) (by kernel_rfl) h
theorem kp1_w (cc : Option Nat) (ls : List AV) (l2 : List AV) (js : List AV) (ks : List AV) (k : Nat) (m : Nat) (j : Nat) (j1 : Nat) (bs : List AV) (i : Nat) (E : AX → List AV → List Blk → Prop) (h :
    (iltB (Int.ofNat i) (Int.ofNat m) → appRoom 1 j 1 ∧ j1.beq (j * 1) ∧ AV.plainL js ∧ AV.plainL ls ∧ AV.plainL ks ∧ AV.plainL l2 ∧ AV.plainL (bs ++ [AV.bool true]) ∧ E .normal ([.slice (some (6, 0)) (j + 1) none, .bool true, .ptr (some (0, 0)), .ptr (some (1, 0)), .slice (some (2, 0)) k none, .slice (some (2, 0)) k none, .int .i64 (Int.ofNat m), .int .i64 (wrapA .i64 ((Int.ofNat i).add (Int.ofNat 1)))]) ([.cells true 145 4 [.slice (some (3, 0)) 4 cc, .slice (some (4, 0)) k none, .bool false, .ptr none], .cells true 145 4 [.slice (some (5, 0)) 4 none, .slice none 0 (some 0), .bool false, .ptr none], .cells true 48 (k * 2) js, .cells true 151 8 ls, .cells true 48 (k * 2) ks, .cells true 151 8 l2, .cells true 4 (bs ++ [AV.bool true]).length (bs ++ [AV.bool true])])) ∧ (iltB (Int.ofNat i) (Int.ofNat m) = false → AV.plainL js ∧ AV.plainL ls ∧ AV.plainL ks ∧ AV.plainL l2 ∧ AV.plainL bs ∧ E (.exit 2) ([.slice (some (6, 0)) j none, .bool true, .ptr (some (0, 0)), .ptr (some (1, 0)), .slice (some (2, 0)) k none, .slice (some (2, 0)) k none, .int .i64 (Int.ofNat m), .int .i64 (Int.ofNat i)]) ([.cells true 145 4 [.slice (some (3, 0)) 4 cc, .slice (some (4, 0)) k none, .bool false, .ptr none], .cells true 145 4 [.slice (some (5, 0)) 4 none, .slice none 0 (some 0), .bool false, .ptr none], .cells true 48 (k * 2) js, .cells true 151 8 ls, .cells true 48 (k * 2) ks, .cells true 151 8 l2, .cells true 4 j1 bs]))) :
    ∃ q, roundS tys fns KM14 40 4 40 kpL (roundOf (blockOf Try.f4 2)) 6 ([.slice (some (6, 0)) j none, .bool true, .ptr (some (0, 0)), .ptr (some (1, 0)), .slice (some (2, 0)) k none, .slice (some (2, 0)) k none, .int .i64 (Int.ofNat m), .int .i64 (Int.ofNat i)], [.cells true 145 4 [.slice (some (3, 0)) 4 cc, .slice (some (4, 0)) k none, .bool false, .ptr none], .cells true 145 4 [.slice (some (5, 0)) 4 none, .slice none 0 (some 0), .bool false, .ptr none], .cells true 48 (k * 2) js, .cells true 151 8 ls, .cells true 48 (k * 2) ks, .cells true 151 8 l2, .cells true 4 j1 bs]) q (fun x _ => E x.1 x.2.1 x.2.2) := wp_of (qN [4, 2, 8, 0, 0, 19, 0, 4, 0, 4, 0, 4, 0, 4, 0, 3, 18, 0, 4, 0, 4, 0, 4, 0, 4, 0, 3]) (by kernel_rfl) h
theorem kpN_ok : ZLoop.OK Try.prog (tyCx tys) (flOf tys) 2 { kpL with m := kpN } := by
  refine ZLoop.wp0 (cxZ cx_goes) allM14 4 40 40 (b := roundOf (blockOf Try.f4 2)) (by kernel_rfl) (by kernel_rfl) fun vs bs conds X vs' bs' h hc hin => ?_
  simp only [kpN] at h
  split at h
  · rename_i cc ls l2
    obtain ⟨rfl, rfl, rfl, rfl⟩ := some5 h
    exact ⟨.exit 2, AX.noConfusion, rfl, kpN_w cc ls l2 _ ⟨zin_plain hin 2 rfl (by kernel_rfl), zin_plain hin 3 rfl (by kernel_rfl), rfl, rfl, rfl⟩⟩
  · cases h
abbrev KpP := Option Nat × List AV × List AV × List AV × List AV × Nat × Nat
def kpEnc : KpP → ZSt := fun (cc, ls, l2, js, ks, k, i) => match i with
  | 0 => ([.slice none 0 (some 0), .bool true, .ptr (some (0, 0)), .ptr (some (1, 0)), .slice (some (2, 0)) k none, .slice (some (2, 0)) k none, .int .i64 (Int.ofNat k), .int .i64 (Int.ofNat 0)], [.cells true 145 4 [.slice (some (3, 0)) 4 cc, .slice (some (4, 0)) k none, .bool false, .ptr none], .cells true 145 4 [.slice (some (5, 0)) 4 none, .slice none 0 (some 0), .bool false, .ptr none], .cells true 48 (k * 2) js, .cells true 151 8 ls, .cells true 48 (k * 2) ks, .cells true 151 8 l2])
  | i + 1 => ([.slice (some (6, 0)) (i + 1) none, .bool true, .ptr (some (0, 0)), .ptr (some (1, 0)), .slice (some (2, 0)) k none, .slice (some (2, 0)) k none, .int .i64 (Int.ofNat k), .int .i64 (Int.ofNat (i + 1))], [.cells true 145 4 [.slice (some (3, 0)) 4 cc, .slice (some (4, 0)) k none, .bool false, .ptr none], .cells true 145 4 [.slice (some (5, 0)) 4 none, .slice none 0 (some 0), .bool false, .ptr none], .cells true 48 (k * 2) js, .cells true 151 8 ls, .cells true 48 (k * 2) ks, .cells true 151 8 l2, .cells true 4 (i + 1) (truesA (i + 1))])
theorem kpK_ok : ZLoop.OK Try.prog (tyCx tys) (flOf tys) 2 { kpL with m := kpK } := by
  refine ZLoop.wp (cxZ cx_goes) allM14 4 40 40 (b := roundOf (blockOf Try.f4 2)) (by kernel_rfl) (by kernel_rfl) kpEnc (fun (cc, ls, l2, js, ks, k, i) => AV.plainL ls = true ∧ AV.plainL l2 = true ∧ AV.plainL js = true ∧ AV.plainL ks = true ∧ 1 ≤ k ∧ k ≤ 100000 ∧ i ≤ k) (fun _ => 6) (fun (cc, ls, l2, js, ks, k, i) => k - i) (fun (cc, ls, l2, js, ks, k, i) => (.exit 2, kpEnc (cc, ls, l2, js, ks, k, k))) ?_ ?_
  · intro vs bs conds X vs' bs' h hc hin
    simp only [kpK] at h
    split at h
    · rename_i k k2 m i cc k3 a js ls b ks l2
      obtain ⟨rfl, rfl, rfl, rfl⟩ := some5 h
      simp only [allTrue_cons, nbeq_iff, nble_iff] at hc
      obtain ⟨rfl, rfl, rfl, rfl, rfl, rfl, c1, c2, _⟩ := hc
      refine ⟨(cc, ls, l2, js, ks, m, 0), ⟨zin_plain hin 3 rfl (by kernel_rfl), zin_plain hin 5 rfl (by kernel_rfl), zin_plain hin 2 rfl (by kernel_rfl), zin_plain hin 4 rfl (by kernel_rfl), c1, c2, Nat.zero_le _⟩, rfl, rfl, rfl, ?_⟩
      rw [kept_eq]
      cases m with
      | zero => omega
      | succ j => rfl
    · cases h
  · rintro ⟨cc, ls, l2, js, ks, k, i⟩ ⟨p1, p2, p3, p4, h1, hk, hi⟩
    cases i with
    | zero =>
      exact kp0_w cc ls l2 js ks k k _ ⟨fun _ => ⟨p3, p1, p4, p2, Stp.go (cc, ls, l2, js, ks, k, 1) ⟨p1, p2, p3, p4, h1, hk, h1⟩ (by simp only; omega) rfl⟩, fun h => absurd (ge_nat h) (by omega)⟩
    | succ i =>
      refine kp1_w cc ls l2 js ks k k (i + 1) (i + 1) (truesA (i + 1)) (i + 1) _ ⟨fun h => ?_, fun h => ?_⟩
      · have h : i + 1 < k := lt_nat h
        rw [wrap_inc (by omega), truesA_snoc, truesA_len]
        exact ⟨room_ofM (by omega) (by omega), nbeq_iff.2 (Nat.mul_one _).symm, p3, p1, p4, p2, encB_plain _, Stp.go (cc, ls, l2, js, ks, k, i + 1 + 1) ⟨p1, p2, p3, p4, h1, hk, h⟩ (by simp only; omega) rfl⟩
      · have h : k ≤ i + 1 := ge_nat h
        have e : i + 1 = k := Nat.le_antisymm hi h
        subst e
        exact ⟨p3, p1, p4, p2, encB_plain _, Stp.fin rfl⟩
theorem kpL_ok : kpL.OK Try.prog (tyCx tys) (flOf tys) 2 := ZLoop.or (m1 := kpN) (m2 := kpK) rfl kpN_ok kpK_ok
def laFN (vs : List AV) (bs : List Blk) : DT (List Bool × AX × List AV × List Blk) := match vs, bs with
  | [.fsl kn kl kc, .bool al, .ptr (some (0, 0)), .ptr (some (1, 0)), .slice none 0 (some 0), .slice (some (2, 0)) 4 (some 4), .slice (some (2, 0)) 4 (some 4), .int .i64 (.ofNat m), .int .i64 (.ofNat i)], [.cells true 145 4 [.slice (some (3, 0)) 4 cc, .slice none 0 (some 0), .bool false, .ptr none], .cells true 145 4 [.slice (some (4, 0)) 4 none, .slice none 0 (some 0), .bool false, .ptr none], .cells true 9 4 rs, .cells true 151 8 ls, .cells true 151 8 l2] => .leaf ([isL ls, Nat.beq ls.length 8, Nat.beq rs.length 4, Nat.beq m 4, Nat.beq i 0, AV.plainL kc], .normal, [.fsl kn kl kc, .bool al, .ptr (some (0, 0)), .ptr (some (1, 0)), .slice none 0 (some 0), .slice (some (2, 0)) 4 (some 4), .slice (some (2, 0)) 4 (some 4), .int .i64 (Int.ofNat 4), .int .i64 (Int.ofNat 4)], [.cells true 145 4 [.slice (some (3, 0)) 4 cc, .slice none 0 (some 0), .bool false, .ptr none], .cells true 145 4 [.slice (some (4, 0)) 4 none, .slice none 0 (some 0), .bool false, .ptr none], .cells true 9 4 (kept (lastR ls [])), .cells true 151 8 ls, .cells true 151 8 l2])
  | _, _ => .no
def laFK (vs : List AV) (bs : List Blk) : DT (List Bool × AX × List AV × List Blk) := match vs, bs with
  | [.fsl kn kl kc, .bool al, .ptr (some (0, 0)), .ptr (some (1, 0)), .slice (some (2, 0)) k none, .slice (some (3, 0)) 4 (some 4), .slice (some (3, 0)) 4 (some 4), .int .i64 (.ofNat m), .int .i64 (.ofNat i)], [.cells true 145 4 [.slice (some (4, 0)) 4 cc, .slice (some (5, 0)) k3 none, .bool false, .ptr none], .cells true 145 4 [.slice (some (6, 0)) 4 none, .slice none 0 (some 0), .bool false, .ptr none], .cells true 48 a js, .cells true 9 4 rs, .cells true 151 8 ls, .cells true 48 b ks, .cells true 151 8 l2] => .leaf ([isL ls, Nat.beq ls.length 8, Nat.beq rs.length 4, Nat.beq m 4, Nat.beq i 0, isW 4 ks, Nat.beq ks.length (k * 2), Nat.ble k 100000, Nat.beq k3 k, Nat.beq a (k * 2), Nat.beq b (k * 2), AV.plainL kc], .normal, [.fsl kn kl kc, .bool al, .ptr (some (0, 0)), .ptr (some (1, 0)), .slice (some (2, 0)) k none, .slice (some (3, 0)) 4 (some 4), .slice (some (3, 0)) 4 (some 4), .int .i64 (Int.ofNat 4), .int .i64 (Int.ofNat 4)], [.cells true 145 4 [.slice (some (4, 0)) 4 cc, .slice (some (5, 0)) k none, .bool false, .ptr none], .cells true 145 4 [.slice (some (6, 0)) 4 none, .slice none 0 (some 0), .bool false, .ptr none], .cells true 48 (k * 2) js, .cells true 9 4 (kept (lastR ls ks)), .cells true 151 8 ls, .cells true 48 (k * 2) ks, .cells true 151 8 l2])
  | _, _ => .no
def laZN (vs : List AV) (bs : List Blk) : DT (List Bool × AX × List AV × List Blk) := match vs, bs with
  | [.slice none 0 (some 0), .bool al, .ptr (some (0, 0)), .ptr (some (1, 0)), .slice none 0 (some 0), .slice (some (2, 0)) 4 (some 4), .slice (some (2, 0)) 4 (some 4), .int .i64 (.ofNat m), .int .i64 (.ofNat i)], [.cells true 145 4 [.slice (some (3, 0)) 4 cc, .slice none 0 (some 0), .bool false, .ptr none], .cells true 145 4 [.slice (some (4, 0)) 4 none, .slice none 0 (some 0), .bool false, .ptr none], .cells true 9 4 rs, .cells true 151 8 ls, .cells true 151 8 l2] => .leaf ([isL ls, Nat.beq ls.length 8, Nat.beq rs.length 4, Nat.beq m 4, Nat.beq i 0], .normal, [.slice none 0 (some 0), .bool al, .ptr (some (0, 0)), .ptr (some (1, 0)), .slice none 0 (some 0), .slice (some (2, 0)) 4 (some 4), .slice (some (2, 0)) 4 (some 4), .int .i64 (Int.ofNat 4), .int .i64 (Int.ofNat 4)], [.cells true 145 4 [.slice (some (3, 0)) 4 cc, .slice none 0 (some 0), .bool false, .ptr none], .cells true 145 4 [.slice (some (4, 0)) 4 none, .slice none 0 (some 0), .bool false, .ptr none], .cells true 9 4 (kept (lastR ls [])), .cells true 151 8 ls, .cells true 151 8 l2])
  | _, _ => .no
def laOK (vs : List AV) (bs : List Blk) : DT (List Bool × AX × List AV × List Blk) := match vs, bs with
  | [.slice (some (0, 0)) qn none, .bool al, .ptr (some (1, 0)), .ptr (some (2, 0)), .slice (some (3, 0)) k none, .slice (some (4, 0)) 4 (some 4), .slice (some (4, 0)) 4 (some 4), .int .i64 (.ofNat m), .int .i64 (.ofNat i)], [.cells true 4 q0 kb, .cells true 145 4 [.slice (some (5, 0)) 4 cc, .slice (some (6, 0)) k3 none, .bool false, .ptr none], .cells true 145 4 [.slice (some (7, 0)) 4 none, .slice none 0 (some 0), .bool false, .ptr none], .cells true 48 a js, .cells true 9 4 rs, .cells true 151 8 ls, .cells true 48 b ks, .cells true 151 8 l2] => .leaf ([isL ls, Nat.beq ls.length 8, Nat.beq rs.length 4, Nat.beq m 4, Nat.beq i 0, isW 4 ks, Nat.beq ks.length (k * 2), Nat.ble k 100000, Nat.beq k3 k, Nat.beq a (k * 2), Nat.beq b (k * 2), Nat.beq q0 qn], .normal, [.slice (some (0, 0)) qn none, .bool al, .ptr (some (1, 0)), .ptr (some (2, 0)), .slice (some (3, 0)) k none, .slice (some (4, 0)) 4 (some 4), .slice (some (4, 0)) 4 (some 4), .int .i64 (Int.ofNat 4), .int .i64 (Int.ofNat 4)], [.cells true 4 qn kb, .cells true 145 4 [.slice (some (5, 0)) 4 cc, .slice (some (6, 0)) k none, .bool false, .ptr none], .cells true 145 4 [.slice (some (7, 0)) 4 none, .slice none 0 (some 0), .bool false, .ptr none], .cells true 48 (k * 2) js, .cells true 9 4 (kept (lastR ls ks)), .cells true 151 8 ls, .cells true 48 (k * 2) ks, .cells true 151 8 l2])
  | _, _ => .no
def laL : ZLoop := ⟨161, blockOf Try.f4 4, [1, 2, 7, 11, 12, 13, 76, 77, 78], 0, [], fun vs bs => (laFN vs bs).or ((laFK vs bs).or ((laZN vs bs).or (laOK vs bs)))⟩
theorem laFN_w (cc : Option Nat) (ls : List AV) (l2 : List AV) (rs : List AV) (kn : Bool) (kl : Nat) (kc : List AV) (al : Bool) (m : Nat) (i : Nat) (E : AX → List AV → List Blk → Prop) (h :
    (iltB (Int.ofNat i) (Int.ofNat m) → (ileB (Int.ofNat 4) (Int.ofNat i) → AV.plainL ls ∧ AV.plainL ls ∧ AV.plainL ls ∧ i.succ.ble 4 ∧ (0 + i * 1 + 1).ble 4 ∧ AV.plainL kc ∧ AV.plainL (rowSet rs (0 + i * 1) [.str []]) ∧ AV.plainL ls ∧ AV.plainL l2 ∧ E .normal ([.fsl kn kl kc, .bool al, .ptr (some (0, 0)), .ptr (some (1, 0)), .slice none 0 (some 0), .slice (some (2, 0)) 4 (some 4), .slice (some (2, 0)) 4 (some 4), .int .i64 (Int.ofNat m), .int .i64 (wrapA .i64 ((Int.ofNat i).add (Int.ofNat 1)))]) ([.cells true 145 4 [.slice (some (3, 0)) 4 cc, .slice none 0 (some 0), .bool false, .ptr none], .cells true 145 4 [.slice (some (4, 0)) 4 none, .slice none 0 (some 0), .bool false, .ptr none], .cells true 9 4 (rowSet rs (0 + i * 1) [.str []]), .cells true 151 8 ls, .cells true 151 8 l2])) ∧ (ileB (Int.ofNat 4) (Int.ofNat i) = false → (lostL ls (Int.ofNat i) → AV.plainL ls ∧ AV.plainL ls ∧ isL ls ∧ ls.length.beq 8 ∧ AV.plainL ls ∧ i.succ.ble 4 ∧ (0 + i * 1 + 1).ble 4 ∧ AV.plainL kc ∧ AV.plainL (rowSet rs (0 + i * 1) [.str []]) ∧ AV.plainL ls ∧ AV.plainL l2 ∧ E .normal ([.fsl kn kl kc, .bool al, .ptr (some (0, 0)), .ptr (some (1, 0)), .slice none 0 (some 0), .slice (some (2, 0)) 4 (some 4), .slice (some (2, 0)) 4 (some 4), .int .i64 (Int.ofNat m), .int .i64 (wrapA .i64 ((Int.ofNat i).add (Int.ofNat 1)))]) ([.cells true 145 4 [.slice (some (3, 0)) 4 cc, .slice none 0 (some 0), .bool false, .ptr none], .cells true 145 4 [.slice (some (4, 0)) 4 none, .slice none 0 (some 0), .bool false, .ptr none], .cells true 9 4 (rowSet rs (0 + i * 1) [.str []]), .cells true 151 8 ls, .cells true 151 8 l2])) ∧ (lostL ls (Int.ofNat i) = false → AV.plainL ls ∧ AV.plainL ls ∧ isL ls ∧ ls.length.beq 8 ∧ AV.plainL ls ∧ AV.plainL (kept (atL ls (Int.ofNat i))) ∧ (bytesOf (rowCut (kept (atL ls (Int.ofNat i))) 0 512)).isSome ∧ i.succ.ble 4 ∧ (0 + i * 1 + 1).ble 4 ∧ AV.plainL kc ∧ AV.plainL (rowSet rs (0 + i * 1) [.str ((bytesOf (rowCut (kept (atL ls (Int.ofNat i))) 0 512)).getD [])]) ∧ AV.plainL ls ∧ AV.plainL l2 ∧ E .normal ([.fsl kn kl kc, .bool al, .ptr (some (0, 0)), .ptr (some (1, 0)), .slice none 0 (some 0), .slice (some (2, 0)) 4 (some 4), .slice (some (2, 0)) 4 (some 4), .int .i64 (Int.ofNat m), .int .i64 (wrapA .i64 ((Int.ofNat i).add (Int.ofNat 1)))]) ([.cells true 145 4 [.slice (some (3, 0)) 4 cc, .slice none 0 (some 0), .bool false, .ptr none], .cells true 145 4 [.slice (some (4, 0)) 4 none, .slice none 0 (some 0), .bool false, .ptr none], .cells true 9 4 (rowSet rs (0 + i * 1) [.str ((bytesOf (rowCut (kept (atL ls (Int.ofNat i))) 0 512)).getD [])]), .cells true 151 8 ls, .cells true 151 8 l2])))) ∧ (iltB (Int.ofNat i) (Int.ofNat m) = false → AV.plainL kc ∧ AV.plainL rs ∧ AV.plainL ls ∧ AV.plainL l2 ∧ E (.exit 4) ([.fsl kn kl kc, .bool al, .ptr (some (0, 0)), .ptr (some (1, 0)), .slice none 0 (some 0), .slice (some (2, 0)) 4 (some 4), .slice (some (2, 0)) 4 (some 4), .int .i64 (Int.ofNat m), .int .i64 (Int.ofNat i)]) ([.cells true 145 4 [.slice (some (3, 0)) 4 cc, .slice none 0 (some 0), .bool false, .ptr none], .cells true 145 4 [.slice (some (4, 0)) 4 none, .slice none 0 (some 0), .bool false, .ptr none], .cells true 9 4 rs, .cells true 151 8 ls, .cells true 151 8 l2]))) :
    ∃ q, roundS tys fns KM14 40 4 40 laL (roundOf (blockOf Try.f4 4)) 5 ([.fsl kn kl kc, .bool al, .ptr (some (0, 0)), .ptr (some (1, 0)), .slice none 0 (some 0), .slice (some (2, 0)) 4 (some 4), .slice (some (2, 0)) 4 (some 4), .int .i64 (Int.ofNat m), .int .i64 (Int.ofNat i)], [.cells true 145 4 [.slice (some (3, 0)) 4 cc, .slice none 0 (some 0), .bool false, .ptr none], .cells true 145 4 [.slice (some (4, 0)) 4 none, .slice none 0 (some 0), .bool false, .ptr none], .cells true 9 4 rs, .cells true 151 8 ls, .cells true 151 8 l2]) q (fun x _ => E x.1 x.2.1 x.2.2) := wp_of (qN [4, 2, 5, 2, 12, 0, 7, 0, 7, 0, 4, 0, 5, 0, 7, 0, 12, 0, 4, 0, 4, 0, 3, 2, 12, 0, 7, 0, 0, 0, 8, 0, 4, 0, 5, 0, 7, 0, 12, 0, 4, 0, 4, 0, 3, 12, 0, 7, 0, 0, 0, 9, 0, 4, 0, 4, 0, 4, 0, 5, 0, 7, 0, 12, 0, 4, 0, 4, 0, 3, 7, 0, 12, 0, 4, 0, 4, 0, 3]) (by kernel_rfl) h
theorem laFK_w (cc : Option Nat) (ls : List AV) (l2 : List AV) (rs : List AV) (kn : Bool) (kl : Nat) (kc : List AV) (al : Bool) (k : Nat) (js : List AV) (ks : List AV) (m : Nat) (i : Nat) (E : AX → List AV → List Blk → Prop) (h :
    (iltB (Int.ofNat i) (Int.ofNat m) → (ileB (Int.ofNat 4) (Int.ofNat i) → AV.plainL ls ∧ AV.plainL ks ∧ AV.plainL ls ∧ AV.plainL ks ∧ AV.plainL ls ∧ AV.plainL ks ∧ i.succ.ble 4 ∧ (0 + i * 1 + 1).ble 4 ∧ AV.plainL kc ∧ AV.plainL js ∧ AV.plainL (rowSet rs (0 + i * 1) [.str []]) ∧ AV.plainL ls ∧ AV.plainL ks ∧ AV.plainL l2 ∧ E .normal ([.fsl kn kl kc, .bool al, .ptr (some (0, 0)), .ptr (some (1, 0)), .slice (some (2, 0)) k none, .slice (some (3, 0)) 4 (some 4), .slice (some (3, 0)) 4 (some 4), .int .i64 (Int.ofNat m), .int .i64 (wrapA .i64 ((Int.ofNat i).add (Int.ofNat 1)))]) ([.cells true 145 4 [.slice (some (4, 0)) 4 cc, .slice (some (5, 0)) k none, .bool false, .ptr none], .cells true 145 4 [.slice (some (6, 0)) 4 none, .slice none 0 (some 0), .bool false, .ptr none], .cells true 48 (k * 2) js, .cells true 9 4 (rowSet rs (0 + i * 1) [.str []]), .cells true 151 8 ls, .cells true 48 (k * 2) ks, .cells true 151 8 l2])) ∧ (ileB (Int.ofNat 4) (Int.ofNat i) = false → (hasW ks (Int.ofNat i) → AV.plainL ls ∧ AV.plainL ks ∧ AV.plainL ls ∧ AV.plainL ks ∧ isW 4096 ks ∧ ks.length.beq (k * 2) ∧ (k * 2).beq (k * 2) ∧ k.ble 100000 ∧ AV.plainL (kept (atW ks (Int.ofNat i))) ∧ AV.plainL ls ∧ AV.plainL ks ∧ (kept (atW ks (Int.ofNat i))).length.beq 512 ∧ (bytesOf (kept (atW ks (Int.ofNat i)))).isSome ∧ i.succ.ble 4 ∧ (0 + i * 1 + 1).ble 4 ∧ AV.plainL kc ∧ AV.plainL js ∧ AV.plainL (rowSet rs (0 + i * 1) [.str ((bytesOf (kept (atW ks (Int.ofNat i)))).getD [])]) ∧ AV.plainL ls ∧ AV.plainL ks ∧ AV.plainL l2 ∧ E .normal ([.fsl kn kl kc, .bool al, .ptr (some (0, 0)), .ptr (some (1, 0)), .slice (some (2, 0)) k none, .slice (some (3, 0)) 4 (some 4), .slice (some (3, 0)) 4 (some 4), .int .i64 (Int.ofNat m), .int .i64 (wrapA .i64 ((Int.ofNat i).add (Int.ofNat 1)))]) ([.cells true 145 4 [.slice (some (4, 0)) 4 cc, .slice (some (5, 0)) k none, .bool false, .ptr none], .cells true 145 4 [.slice (some (6, 0)) 4 none, .slice none 0 (some 0), .bool false, .ptr none], .cells true 48 (k * 2) js, .cells true 9 4 (rowSet rs (0 + i * 1) [.str ((bytesOf (kept (atW ks (Int.ofNat i)))).getD [])]), .cells true 151 8 ls, .cells true 48 (k * 2) ks, .cells true 151 8 l2])) ∧ (hasW ks (Int.ofNat i) = false → (lostL ls (Int.ofNat i) → AV.plainL ls ∧ AV.plainL ks ∧ AV.plainL ls ∧ AV.plainL ks ∧ isL ls ∧ ls.length.beq 8 ∧ isW 4096 ks ∧ ks.length.beq (k * 2) ∧ (k * 2).beq (k * 2) ∧ k.ble 100000 ∧ AV.plainL ls ∧ AV.plainL ks ∧ i.succ.ble 4 ∧ (0 + i * 1 + 1).ble 4 ∧ AV.plainL kc ∧ AV.plainL js ∧ AV.plainL (rowSet rs (0 + i * 1) [.str []]) ∧ AV.plainL ls ∧ AV.plainL ks ∧ AV.plainL l2 ∧ E .normal ([.fsl kn kl kc, .bool al, .ptr (some (0, 0)), .ptr (some (1, 0)), .slice (some (2, 0)) k none, .slice (some (3, 0)) 4 (some 4), .slice (some (3, 0)) 4 (some 4), .int .i64 (Int.ofNat m), .int .i64 (wrapA .i64 ((Int.ofNat i).add (Int.ofNat 1)))]) ([.cells true 145 4 [.slice (some (4, 0)) 4 cc, .slice (some (5, 0)) k none, .bool false, .ptr none], .cells true 145 4 [.slice (some (6, 0)) 4 none, .slice none 0 (some 0), .bool false, .ptr none], .cells true 48 (k * 2) js, .cells true 9 4 (rowSet rs (0 + i * 1) [.str []]), .cells true 151 8 ls, .cells true 48 (k * 2) ks, .cells true 151 8 l2])) ∧ (lostL ls (Int.ofNat i) = false → AV.plainL ls ∧ AV.plainL ks ∧ AV.plainL ls ∧ AV.plainL ks ∧ isL ls ∧ ls.length.beq 8 ∧ isW 4096 ks ∧ ks.length.beq (k * 2) ∧ (k * 2).beq (k * 2) ∧ k.ble 100000 ∧ AV.plainL ls ∧ AV.plainL ks ∧ AV.plainL (kept (atL ls (Int.ofNat i))) ∧ (bytesOf (rowCut (kept (atL ls (Int.ofNat i))) 0 512)).isSome ∧ i.succ.ble 4 ∧ (0 + i * 1 + 1).ble 4 ∧ AV.plainL kc ∧ AV.plainL js ∧ AV.plainL (rowSet rs (0 + i * 1) [.str ((bytesOf (rowCut (kept (atL ls (Int.ofNat i))) 0 512)).getD [])]) ∧ AV.plainL ls ∧ AV.plainL ks ∧ AV.plainL l2 ∧ E .normal ([.fsl kn kl kc, .bool al, .ptr (some (0, 0)), .ptr (some (1, 0)), .slice (some (2, 0)) k none, .slice (some (3, 0)) 4 (some 4), .slice (some (3, 0)) 4 (some 4), .int .i64 (Int.ofNat m), .int .i64 (wrapA .i64 ((Int.ofNat i).add (Int.ofNat 1)))]) ([.cells true 145 4 [.slice (some (4, 0)) 4 cc, .slice (some (5, 0)) k none, .bool false, .ptr none], .cells true 145 4 [.slice (some (6, 0)) 4 none, .slice none 0 (some 0), .bool false, .ptr none], .cells true 48 (k * 2) js, .cells true 9 4 (rowSet rs (0 + i * 1) [.str ((bytesOf (rowCut (kept (atL ls (Int.ofNat i))) 0 512)).getD [])]), .cells true 151 8 ls, .cells true 48 (k * 2) ks, .cells true 151 8 l2]))))) ∧ (iltB (Int.ofNat i) (Int.ofNat m) = false → AV.plainL kc ∧ AV.plainL js ∧ AV.plainL rs ∧ AV.plainL ls ∧ AV.plainL ks ∧ AV.plainL l2 ∧ E (.exit 4) ([.fsl kn kl kc, .bool al, .ptr (some (0, 0)), .ptr (some (1, 0)), .slice (some (2, 0)) k none, .slice (some (3, 0)) 4 (some 4), .slice (some (3, 0)) 4 (some 4), .int .i64 (Int.ofNat m), .int .i64 (Int.ofNat i)]) ([.cells true 145 4 [.slice (some (4, 0)) 4 cc, .slice (some (5, 0)) k none, .bool false, .ptr none], .cells true 145 4 [.slice (some (6, 0)) 4 none, .slice none 0 (some 0), .bool false, .ptr none], .cells true 48 (k * 2) js, .cells true 9 4 rs, .cells true 151 8 ls, .cells true 48 (k * 2) ks, .cells true 151 8 l2]))) :
    ∃ q, roundS tys fns KM14 40 4 40 laL (roundOf (blockOf Try.f4 4)) 7 ([.fsl kn kl kc, .bool al, .ptr (some (0, 0)), .ptr (some (1, 0)), .slice (some (2, 0)) k none, .slice (some (3, 0)) 4 (some 4), .slice (some (3, 0)) 4 (some 4), .int .i64 (Int.ofNat m), .int .i64 (Int.ofNat i)], [.cells true 145 4 [.slice (some (4, 0)) 4 cc, .slice (some (5, 0)) k none, .bool false, .ptr none], .cells true 145 4 [.slice (some (6, 0)) 4 none, .slice none 0 (some 0), .bool false, .ptr none], .cells true 48 (k * 2) js, .cells true 9 4 rs, .cells true 151 8 ls, .cells true 48 (k * 2) ks, .cells true 151 8 l2]) q (fun x _ => E x.1 x.2.1 x.2.2) := wp_of (qN [4, 2, 5, 2, 15, 0, 4, 0, 8, 0, 4, 0, 8, 0, 4, 0, 4, 0, 5, 0, 7, 0, 14, 0, 4, 0, 4, 0, 4, 0, 4, 0, 3, 2, 15, 0, 4, 0, 8, 0, 4, 0, 4, 0, 0, 0, 0, 4, 0, 7, 0, 4, 0, 0, 0, 4, 0, 5, 0, 7, 0, 14, 0, 4, 0, 4, 0, 4, 0, 4, 0, 3, 2, 15, 0, 4, 0, 8, 0, 4, 0, 0, 0, 4, 0, 0, 0, 0, 8, 0, 4, 0, 4, 0, 5, 0, 7, 0, 14, 0, 4, 0, 4, 0, 4, 0, 4, 0, 3, 15, 0, 4, 0, 8, 0, 4, 0, 0, 0, 4, 0, 0, 0, 0, 9, 0, 4, 0, 4, 0, 4, 0, 4, 0, 5, 0, 7, 0, 14, 0, 4, 0, 4, 0, 4, 0, 4, 0, 3, 7, 0, 14, 0, 4, 0, 4, 0, 4, 0, 4, 0, 3]) (by kernel_rfl) h
theorem laZN_w (cc : Option Nat) (ls : List AV) (l2 : List AV) (rs : List AV) (al : Bool) (m : Nat) (i : Nat) (E : AX → List AV → List Blk → Prop) (h :
    (iltB (Int.ofNat i) (Int.ofNat m) → (ileB (Int.ofNat 4) (Int.ofNat i) → AV.plainL ls ∧ AV.plainL ls ∧ AV.plainL ls ∧ i.succ.ble 4 ∧ (0 + i * 1 + 1).ble 4 ∧ AV.plainL (rowSet rs (0 + i * 1) [.str []]) ∧ AV.plainL ls ∧ AV.plainL l2 ∧ E .normal ([.slice none 0 (some 0), .bool al, .ptr (some (0, 0)), .ptr (some (1, 0)), .slice none 0 (some 0), .slice (some (2, 0)) 4 (some 4), .slice (some (2, 0)) 4 (some 4), .int .i64 (Int.ofNat m), .int .i64 (wrapA .i64 ((Int.ofNat i).add (Int.ofNat 1)))]) ([.cells true 145 4 [.slice (some (3, 0)) 4 cc, .slice none 0 (some 0), .bool false, .ptr none], .cells true 145 4 [.slice (some (4, 0)) 4 none, .slice none 0 (some 0), .bool false, .ptr none], .cells true 9 4 (rowSet rs (0 + i * 1) [.str []]), .cells true 151 8 ls, .cells true 151 8 l2])) ∧ (ileB (Int.ofNat 4) (Int.ofNat i) = false → (lostL ls (Int.ofNat i) → AV.plainL ls ∧ AV.plainL ls ∧ isL ls ∧ ls.length.beq 8 ∧ AV.plainL ls ∧ i.succ.ble 4 ∧ (0 + i * 1 + 1).ble 4 ∧ AV.plainL (rowSet rs (0 + i * 1) [.str []]) ∧ AV.plainL ls ∧ AV.plainL l2 ∧ E .normal ([.slice none 0 (some 0), .bool al, .ptr (some (0, 0)), .ptr (some (1, 0)), .slice none 0 (some 0), .slice (some (2, 0)) 4 (some 4), .slice (some (2, 0)) 4 (some 4), .int .i64 (Int.ofNat m), .int .i64 (wrapA .i64 ((Int.ofNat i).add (Int.ofNat 1)))]) ([.cells true 145 4 [.slice (some (3, 0)) 4 cc, .slice none 0 (some 0), .bool false, .ptr none], .cells true 145 4 [.slice (some (4, 0)) 4 none, .slice none 0 (some 0), .bool false, .ptr none], .cells true 9 4 (rowSet rs (0 + i * 1) [.str []]), .cells true 151 8 ls, .cells true 151 8 l2])) ∧ (lostL ls (Int.ofNat i) = false → AV.plainL ls ∧ AV.plainL ls ∧ isL ls ∧ ls.length.beq 8 ∧ AV.plainL ls ∧ AV.plainL (kept (atL ls (Int.ofNat i))) ∧ (bytesOf (rowCut (kept (atL ls (Int.ofNat i))) 0 512)).isSome ∧ i.succ.ble 4 ∧ (0 + i * 1 + 1).ble 4 ∧ AV.plainL (rowSet rs (0 + i * 1) [.str ((bytesOf (rowCut (kept (atL ls (Int.ofNat i))) 0 512)).getD [])]) ∧ AV.plainL ls ∧ AV.plainL l2 ∧ E .normal ([.slice none 0 (some 0), .bool al, .ptr (some (0, 0)), .ptr (some (1, 0)), .slice none 0 (some 0), .slice (some (2, 0)) 4 (some 4), .slice (some (2, 0)) 4 (some 4), .int .i64 (Int.ofNat m), .int .i64 (wrapA .i64 ((Int.ofNat i).add (Int.ofNat 1)))]) ([.cells true 145 4 [.slice (some (3, 0)) 4 cc, .slice none 0 (some 0), .bool false, .ptr none], .cells true 145 4 [.slice (some (4, 0)) 4 none, .slice none 0 (some 0), .bool false, .ptr none], .cells true 9 4 (rowSet rs (0 + i * 1) [.str ((bytesOf (rowCut (kept (atL ls (Int.ofNat i))) 0 512)).getD [])]), .cells true 151 8 ls, .cells true 151 8 l2])))) ∧ (iltB (Int.ofNat i) (Int.ofNat m) = false → AV.plainL rs ∧ AV.plainL ls ∧ AV.plainL l2 ∧ E (.exit 4) ([.slice none 0 (some 0), .bool al, .ptr (some (0, 0)), .ptr (some (1, 0)), .slice none 0 (some 0), .slice (some (2, 0)) 4 (some 4), .slice (some (2, 0)) 4 (some 4), .int .i64 (Int.ofNat m), .int .i64 (Int.ofNat i)]) ([.cells true 145 4 [.slice (some (3, 0)) 4 cc, .slice none 0 (some 0), .bool false, .ptr none], .cells true 145 4 [.slice (some (4, 0)) 4 none, .slice none 0 (some 0), .bool false, .ptr none], .cells true 9 4 rs, .cells true 151 8 ls, .cells true 151 8 l2]))) :
    ∃ q, roundS tys fns KM14 40 4 40 laL (roundOf (blockOf Try.f4 4)) 5 ([.slice none 0 (some 0), .bool al, .ptr (some (0, 0)), .ptr (some (1, 0)), .slice none 0 (some 0), .slice (some (2, 0)) 4 (some 4), .slice (some (2, 0)) 4 (some 4), .int .i64 (Int.ofNat m), .int .i64 (Int.ofNat i)], [.cells true 145 4 [.slice (some (3, 0)) 4 cc, .slice none 0 (some 0), .bool false, .ptr none], .cells true 145 4 [.slice (some (4, 0)) 4 none, .slice none 0 (some 0), .bool false, .ptr none], .cells true 9 4 rs, .cells true 151 8 ls, .cells true 151 8 l2]) q (fun x _ => E x.1 x.2.1 x.2.2) := wp_of (qN [4, 2, 5, 2, 12, 0, 7, 0, 7, 0, 4, 0, 5, 0, 16, 0, 4, 0, 4, 0, 3, 2, 12, 0, 7, 0, 0, 0, 8, 0, 4, 0, 5, 0, 16, 0, 4, 0, 4, 0, 3, 12, 0, 7, 0, 0, 0, 9, 0, 4, 0, 4, 0, 4, 0, 5, 0, 16, 0, 4, 0, 4, 0, 3, 16, 0, 4, 0, 4, 0, 3]) (by kernel_rfl) h
theorem laOK_w (cc : Option Nat) (ls : List AV) (l2 : List AV) (rs : List AV) (qn : Nat) (bs : List AV) (al : Bool) (k : Nat) (js : List AV) (ks : List AV) (m : Nat) (i : Nat) (E : AX → List AV → List Blk → Prop) (h :
    (iltB (Int.ofNat i) (Int.ofNat m) → (ileB (Int.ofNat 4) (Int.ofNat i) → AV.plainL ls ∧ AV.plainL ks ∧ AV.plainL ls ∧ AV.plainL ks ∧ AV.plainL ls ∧ AV.plainL ks ∧ i.succ.ble 4 ∧ (0 + i * 1 + 1).ble 4 ∧ AV.plainL bs ∧ AV.plainL js ∧ AV.plainL (rowSet rs (0 + i * 1) [.str []]) ∧ AV.plainL ls ∧ AV.plainL ks ∧ AV.plainL l2 ∧ E .normal ([.slice (some (0, 0)) qn none, .bool al, .ptr (some (1, 0)), .ptr (some (2, 0)), .slice (some (3, 0)) k none, .slice (some (4, 0)) 4 (some 4), .slice (some (4, 0)) 4 (some 4), .int .i64 (Int.ofNat m), .int .i64 (wrapA .i64 ((Int.ofNat i).add (Int.ofNat 1)))]) ([.cells true 4 qn bs, .cells true 145 4 [.slice (some (5, 0)) 4 cc, .slice (some (6, 0)) k none, .bool false, .ptr none], .cells true 145 4 [.slice (some (7, 0)) 4 none, .slice none 0 (some 0), .bool false, .ptr none], .cells true 48 (k * 2) js, .cells true 9 4 (rowSet rs (0 + i * 1) [.str []]), .cells true 151 8 ls, .cells true 48 (k * 2) ks, .cells true 151 8 l2])) ∧ (ileB (Int.ofNat 4) (Int.ofNat i) = false → (hasW ks (Int.ofNat i) → AV.plainL ls ∧ AV.plainL ks ∧ AV.plainL ls ∧ AV.plainL ks ∧ isW 4096 ks ∧ ks.length.beq (k * 2) ∧ (k * 2).beq (k * 2) ∧ k.ble 100000 ∧ AV.plainL (kept (atW ks (Int.ofNat i))) ∧ AV.plainL ls ∧ AV.plainL ks ∧ (kept (atW ks (Int.ofNat i))).length.beq 512 ∧ (bytesOf (kept (atW ks (Int.ofNat i)))).isSome ∧ i.succ.ble 4 ∧ (0 + i * 1 + 1).ble 4 ∧ AV.plainL bs ∧ AV.plainL js ∧ AV.plainL (rowSet rs (0 + i * 1) [.str ((bytesOf (kept (atW ks (Int.ofNat i)))).getD [])]) ∧ AV.plainL ls ∧ AV.plainL ks ∧ AV.plainL l2 ∧ E .normal ([.slice (some (0, 0)) qn none, .bool al, .ptr (some (1, 0)), .ptr (some (2, 0)), .slice (some (3, 0)) k none, .slice (some (4, 0)) 4 (some 4), .slice (some (4, 0)) 4 (some 4), .int .i64 (Int.ofNat m), .int .i64 (wrapA .i64 ((Int.ofNat i).add (Int.ofNat 1)))]) ([.cells true 4 qn bs, .cells true 145 4 [.slice (some (5, 0)) 4 cc, .slice (some (6, 0)) k none, .bool false, .ptr none], .cells true 145 4 [.slice (some (7, 0)) 4 none, .slice none 0 (some 0), .bool false, .ptr none], .cells true 48 (k * 2) js, .cells true 9 4 (rowSet rs (0 + i * 1) [.str ((bytesOf (kept (atW ks (Int.ofNat i)))).getD [])]), .cells true 151 8 ls, .cells true 48 (k * 2) ks, .cells true 151 8 l2])) ∧ (hasW ks (Int.ofNat i) = false → (lostL ls (Int.ofNat i) → AV.plainL ls ∧ AV.plainL ks ∧ AV.plainL ls ∧ AV.plainL ks ∧ isL ls ∧ ls.length.beq 8 ∧ isW 4096 ks ∧ ks.length.beq (k * 2) ∧ (k * 2).beq (k * 2) ∧ k.ble 100000 ∧ AV.plainL ls ∧ AV.plainL ks ∧ i.succ.ble 4 ∧ (0 + i * 1 + 1).ble 4 ∧ AV.plainL bs ∧ AV.plainL js ∧ AV.plainL (rowSet rs (0 + i * 1) [.str []]) ∧ AV.plainL ls ∧ AV.plainL ks ∧ AV.plainL l2 ∧ E .normal ([.slice (some (0, 0)) qn none, .bool al, .ptr (some (1, 0)), .ptr (some (2, 0)), .slice (some (3, 0)) k none, .slice (some (4, 0)) 4 (some 4), .slice (some (4, 0)) 4 (some 4), .int .i64 (Int.ofNat m), .int .i64 (wrapA .i64 ((Int.ofNat i).add (Int.ofNat 1)))]) ([.cells true 4 qn bs, .cells true 145 4 [.slice (some (5, 0)) 4 cc, .slice (some (6, 0)) k none, .bool false, .ptr none], .cells true 145 4 [.slice (some (7, 0)) 4 none, .slice none 0 (some 0), .bool false, .ptr none], .cells true 48 (k * 2) js, .cells true 9 4 (rowSet rs (0 + i * 1) [.str []]), .cells true 151 8 ls, .cells true 48 (k * 2) ks, .cells true 151 8 l2])) ∧ (lostL ls (Int.ofNat i) = false → AV.plainL ls ∧ AV.plainL ks ∧ AV.plainL ls ∧ AV.plainL ks ∧ isL ls ∧ ls.length.beq 8 ∧ isW 4096 ks ∧ ks.length.beq (k * 2) ∧ (k * 2).beq (k * 2) ∧ k.ble 100000 ∧ AV.plainL ls ∧ AV.plainL ks ∧ AV.plainL (kept (atL ls (Int.ofNat i))) ∧ (bytesOf (rowCut (kept (atL ls (Int.ofNat i))) 0 512)).isSome ∧ i.succ.ble 4 ∧ (0 + i * 1 + 1).ble 4 ∧ AV.plainL bs ∧ AV.plainL js ∧ AV.plainL (rowSet rs (0 + i * 1) [.str ((bytesOf (rowCut (kept (atL ls (Int.ofNat i))) 0 512)).getD [])]) ∧ AV.plainL ls ∧ AV.plainL ks ∧ AV.plainL l2 ∧ E .normal ([.slice (some (0, 0)) qn none, .bool al, .ptr (some (1, 0)), .ptr (some (2, 0)), .slice (some (3, 0)) k none, .slice (some (4, 0)) 4 (some 4), .slice (some (4, 0)) 4 (some 4), .int .i64 (Int.ofNat m), .int .i64 (wrapA .i64 ((Int.ofNat i).add (Int.ofNat 1)))]) ([.cells true 4 qn bs, .cells true 145 4 [.slice (some (5, 0)) 4 cc, .slice (some (6, 0)) k none, .bool false, .ptr none], .cells true 145 4 [.slice (some (7, 0)) 4 none, .slice none 0 (some 0), .bool false, .ptr none], .cells true 48 (k * 2) js, .cells true 9 4 (rowSet rs (0 + i * 1) [.str ((bytesOf (rowCut (kept (atL ls (Int.ofNat i))) 0 512)).getD [])]), .cells true 151 8 ls, .cells true 48 (k * 2) ks, .cells true 151 8 l2]))))) ∧ (iltB (Int.ofNat i) (Int.ofNat m) = false → AV.plainL bs ∧ AV.plainL js ∧ AV.plainL rs ∧ AV.plainL ls ∧ AV.plainL ks ∧ AV.plainL l2 ∧ E (.exit 4) ([.slice (some (0, 0)) qn none, .bool al, .ptr (some (1, 0)), .ptr (some (2, 0)), .slice (some (3, 0)) k none, .slice (some (4, 0)) 4 (some 4), .slice (some (4, 0)) 4 (some 4), .int .i64 (Int.ofNat m), .int .i64 (Int.ofNat i)]) ([.cells true 4 qn bs, .cells true 145 4 [.slice (some (5, 0)) 4 cc, .slice (some (6, 0)) k none, .bool false, .ptr none], .cells true 145 4 [.slice (some (7, 0)) 4 none, .slice none 0 (some 0), .bool false, .ptr none], .cells true 48 (k * 2) js, .cells true 9 4 rs, .cells true 151 8 ls, .cells true 48 (k * 2) ks, .cells true 151 8 l2]))) :
    ∃ q, roundS tys fns KM14 40 4 40 laL (roundOf (blockOf Try.f4 4)) 8 ([.slice (some (0, 0)) qn none, .bool al, .ptr (some (1, 0)), .ptr (some (2, 0)), .slice (some (3, 0)) k none, .slice (some (4, 0)) 4 (some 4), .slice (some (4, 0)) 4 (some 4), .int .i64 (Int.ofNat m), .int .i64 (Int.ofNat i)], [.cells true 4 qn bs, .cells true 145 4 [.slice (some (5, 0)) 4 cc, .slice (some (6, 0)) k none, .bool false, .ptr none], .cells true 145 4 [.slice (some (7, 0)) 4 none, .slice none 0 (some 0), .bool false, .ptr none], .cells true 48 (k * 2) js, .cells true 9 4 rs, .cells true 151 8 ls, .cells true 48 (k * 2) ks, .cells true 151 8 l2]) q (fun x _ => E x.1 x.2.1 x.2.2) := wp_of (qN [4, 2, 5, 2, 15, 0, 4, 0, 8, 0, 4, 0, 8, 0, 4, 0, 4, 0, 5, 0, 14, 0, 9, 0, 4, 0, 4, 0, 4, 0, 4, 0, 3, 2, 15, 0, 4, 0, 8, 0, 4, 0, 4, 0, 0, 0, 0, 4, 0, 7, 0, 4, 0, 0, 0, 4, 0, 5, 0, 14, 0, 9, 0, 4, 0, 4, 0, 4, 0, 4, 0, 3, 2, 15, 0, 4, 0, 8, 0, 4, 0, 0, 0, 4, 0, 0, 0, 0, 8, 0, 4, 0, 4, 0, 5, 0, 14, 0, 9, 0, 4, 0, 4, 0, 4, 0, 4, 0, 3, 15, 0, 4, 0, 8, 0, 4, 0, 0, 0, 4, 0, 0, 0, 0, 9, 0, 4, 0, 4, 0, 4, 0, 4, 0, 5, 0, 14, 0, 9, 0, 4, 0, 4, 0, 4, 0, 4, 0, 3, 14, 0, 9, 0, 4, 0, 4, 0, 4, 0, 4, 0, 3]) (by kernel_rfl) h
theorem laFN_ok : ZLoop.OK Try.prog (tyCx tys) (flOf tys) 4 { laL with m := laFN } := by
  refine ZLoop.wp (cxZ cx_goes) allM14 4 40 40 (b := roundOf (blockOf Try.f4 4)) (by kernel_rfl) (by kernel_rfl) (α := Option Nat × List AV × List AV × List AV × Bool × Nat × List AV × Bool × Nat)
    (fun (cc, ls, l2, rs, kn, kl, kc, al, i) => ([.fsl kn kl kc, .bool al, .ptr (some (0, 0)), .ptr (some (1, 0)), .slice none 0 (some 0), .slice (some (2, 0)) 4 (some 4), .slice (some (2, 0)) 4 (some 4), .int .i64 (Int.ofNat 4), .int .i64 (Int.ofNat i)], [.cells true 145 4 [.slice (some (3, 0)) 4 cc, .slice none 0 (some 0), .bool false, .ptr none], .cells true 145 4 [.slice (some (4, 0)) 4 none, .slice none 0 (some 0), .bool false, .ptr none], .cells true 9 4 ((lastR ls []).take i ++ rs.drop i), .cells true 151 8 ls, .cells true 151 8 l2])) (fun (cc, ls, l2, rs, kn, kl, kc, al, i) => isL ls = true ∧ ls.length = 8 ∧ rs.length = 4 ∧ AV.plainL ls = true ∧ AV.plainL l2 = true ∧ AV.plainL rs = true ∧ AV.plainL kc = true ∧ i ≤ 4) (fun _ => 5) (fun (cc, ls, l2, rs, kn, kl, kc, al, i) => 4 - i) (fun (cc, ls, l2, rs, kn, kl, kc, al, i) => (.exit 4, [.fsl kn kl kc, .bool al, .ptr (some (0, 0)), .ptr (some (1, 0)), .slice none 0 (some 0), .slice (some (2, 0)) 4 (some 4), .slice (some (2, 0)) 4 (some 4), .int .i64 (Int.ofNat 4), .int .i64 (Int.ofNat 4)], [.cells true 145 4 [.slice (some (3, 0)) 4 cc, .slice none 0 (some 0), .bool false, .ptr none], .cells true 145 4 [.slice (some (4, 0)) 4 none, .slice none 0 (some 0), .bool false, .ptr none], .cells true 9 4 (lastR ls []), .cells true 151 8 ls, .cells true 151 8 l2])) ?_ ?_
  · intro vs bs conds X vs' bs' h hc hin
    simp only [laFN] at h
    split at h
    · rename_i kn kl kc al m i cc rs ls l2
      obtain ⟨rfl, rfl, rfl, rfl⟩ := some5 h
      simp only [allTrue_cons, nbeq_iff, nble_iff] at hc
      obtain ⟨c1, c2, c3, rfl, rfl, p6, _⟩ := hc
      exact ⟨(cc, ls, l2, rs, kn, kl, kc, al, 0), ⟨c1, c2, c3, zin_plain hin 3 rfl (by kernel_rfl), zin_plain hin 4 rfl (by kernel_rfl), zin_plain hin 2 rfl (by kernel_rfl), p6, Nat.zero_le _⟩, rfl, rfl, rfl, by rw [kept_eq]⟩
    · cases h
  · rintro ⟨cc, ls, l2, rs, kn, kl, kc, al, i⟩ ⟨c1, c2, c3, p1, p2, p3, p6, hi⟩
    refine laFN_w cc ls l2 ((lastR ls []).take i ++ rs.drop i) kn kl kc al 4 i _ ⟨fun h => ?_, fun h => ?_⟩
    · have h : i < 4 := lt_nat h
      have go : ∀ s, stR false 4 ls [] (Int.ofNat i) = s → rowSet ((lastR ls []).take i ++ rs.drop i) (0 + i * 1) [AV.str s] = (lastR ls []).take (i + 1) ++ rs.drop (i + 1) := by
        rintro s rfl
        rw [← lastR_at ls [] i h, Nat.zero_add, Nat.mul_one]
        exact last_step _ _ _ (by rw [lastR_len]; exact h) (by rw [lastR_len, c3])
      have pr := fun j => lastR_plain ls [] rs j p3
      have z0 := ilt_ofNat i
      have lL := atL_len (i := Int.ofNat i) c1
      have eL := atL_bytes ls (Int.ofNat i)
      have rL : rowCut (atL ls (Int.ofNat i)) 0 512 = atL ls (Int.ofNat i) := rowCut_id _ _ (by rw [eL, ofBytes_length]; exact lL)
      have bL : bytesOf (atL ls (Int.ofNat i)) = some (bytesL (atL ls (Int.ofNat i))) := by rw [eL, bytesOf_ofBytes, bytesL_ofBytes]
      simp only [kept_eq, rL, bL, wrap_inc (show i < 9223372036854775807 by omega), Option.getD_some]
      refine ⟨fun h2 => absurd h2 (by rw [ileB_eq]; exact fun h3 => absurd (of_decide_eq_true h3) (by show ¬ (4 : Int) ≤ (i : Int); omega)), fun h2 => ⟨fun h4 => ?_, fun h4 => ?_⟩⟩
      · rw [go _ (by simp only [stR, hasW_nil, z0, h2, h4, if_true, Bool.false_eq_true, if_false])]
        and_intros
        all_goals with_reducible first
          | assumption
          | exact pr _
          | exact atW_plain _ _
          | exact atL_plain _ _
          | exact nble_iff.2 (by omega)
          | exact nbeq_iff.2 rfl
          | exact nbeq_iff.2 (by assumption)
          | exact Option.isSome_some
          | skip
        exact Stp.go (cc, ls, l2, rs, kn, kl, kc, al, i + 1) ⟨c1, c2, c3, p1, p2, p3, p6, h⟩ (by simp only; omega) rfl
      · rw [go _ (by simp only [stR, hasW_nil, z0, h2, h4, if_true, Bool.false_eq_true, if_false])]
        and_intros
        all_goals with_reducible first
          | assumption
          | exact pr _
          | exact atW_plain _ _
          | exact atL_plain _ _
          | exact nble_iff.2 (by omega)
          | exact nbeq_iff.2 rfl
          | exact nbeq_iff.2 (by assumption)
          | exact Option.isSome_some
          | skip
        exact Stp.go (cc, ls, l2, rs, kn, kl, kc, al, i + 1) ⟨c1, c2, c3, p1, p2, p3, p6, h⟩ (by simp only; omega) rfl
    · have h : 4 ≤ i := ge_nat h
      have hi : i = 4 := by omega
      subst hi
      have pr := lastR_plain ls [] rs 4 p3
      and_intros
      all_goals with_reducible first
        | assumption
        | skip
      exact Stp.fin (by simp only [lastR_end ls [] rs c3])
theorem laFK_ok : ZLoop.OK Try.prog (tyCx tys) (flOf tys) 4 { laL with m := laFK } := by
  refine ZLoop.wp (cxZ cx_goes) allM14 4 40 40 (b := roundOf (blockOf Try.f4 4)) (by kernel_rfl) (by kernel_rfl) (α := Option Nat × List AV × List AV × List AV × Bool × Nat × List AV × Bool × Nat × List AV × List AV × Nat)
    (fun (cc, ls, l2, rs, kn, kl, kc, al, k, js, ks, i) => ([.fsl kn kl kc, .bool al, .ptr (some (0, 0)), .ptr (some (1, 0)), .slice (some (2, 0)) k none, .slice (some (3, 0)) 4 (some 4), .slice (some (3, 0)) 4 (some 4), .int .i64 (Int.ofNat 4), .int .i64 (Int.ofNat i)], [.cells true 145 4 [.slice (some (4, 0)) 4 cc, .slice (some (5, 0)) k none, .bool false, .ptr none], .cells true 145 4 [.slice (some (6, 0)) 4 none, .slice none 0 (some 0), .bool false, .ptr none], .cells true 48 (k * 2) js, .cells true 9 4 ((lastR ls ks).take i ++ rs.drop i), .cells true 151 8 ls, .cells true 48 (k * 2) ks, .cells true 151 8 l2])) (fun (cc, ls, l2, rs, kn, kl, kc, al, k, js, ks, i) => isL ls = true ∧ ls.length = 8 ∧ rs.length = 4 ∧ AV.plainL ls = true ∧ AV.plainL l2 = true ∧ AV.plainL rs = true ∧ isW 4 ks = true ∧ ks.length = k * 2 ∧ k ≤ 100000 ∧ AV.plainL js = true ∧ AV.plainL ks = true ∧ AV.plainL kc = true ∧ i ≤ 4) (fun _ => 7) (fun (cc, ls, l2, rs, kn, kl, kc, al, k, js, ks, i) => 4 - i) (fun (cc, ls, l2, rs, kn, kl, kc, al, k, js, ks, i) => (.exit 4, [.fsl kn kl kc, .bool al, .ptr (some (0, 0)), .ptr (some (1, 0)), .slice (some (2, 0)) k none, .slice (some (3, 0)) 4 (some 4), .slice (some (3, 0)) 4 (some 4), .int .i64 (Int.ofNat 4), .int .i64 (Int.ofNat 4)], [.cells true 145 4 [.slice (some (4, 0)) 4 cc, .slice (some (5, 0)) k none, .bool false, .ptr none], .cells true 145 4 [.slice (some (6, 0)) 4 none, .slice none 0 (some 0), .bool false, .ptr none], .cells true 48 (k * 2) js, .cells true 9 4 (lastR ls ks), .cells true 151 8 ls, .cells true 48 (k * 2) ks, .cells true 151 8 l2])) ?_ ?_
  · intro vs bs conds X vs' bs' h hc hin
    simp only [laFK] at h
    split at h
    · rename_i kn kl kc al k m i cc k3 a js rs ls b ks l2
      obtain ⟨rfl, rfl, rfl, rfl⟩ := some5 h
      simp only [allTrue_cons, nbeq_iff, nble_iff] at hc
      obtain ⟨c1, c2, c3, rfl, rfl, c4, c5, c6, rfl, rfl, rfl, p6, _⟩ := hc
      exact ⟨(cc, ls, l2, rs, kn, kl, kc, al, k3, js, ks, 0), ⟨c1, c2, c3, zin_plain hin 4 rfl (by kernel_rfl), zin_plain hin 6 rfl (by kernel_rfl), zin_plain hin 3 rfl (by kernel_rfl), c4, c5, c6, zin_plain hin 2 rfl (by kernel_rfl), zin_plain hin 5 rfl (by kernel_rfl), p6, Nat.zero_le _⟩, rfl, rfl, rfl, by rw [kept_eq]⟩
    · cases h
  · rintro ⟨cc, ls, l2, rs, kn, kl, kc, al, k, js, ks, i⟩ ⟨c1, c2, c3, p1, p2, p3, c4, c5, c6, p4, p5, p6, hi⟩
    refine laFK_w cc ls l2 ((lastR ls ks).take i ++ rs.drop i) kn kl kc al k js ks 4 i _ ⟨fun h => ?_, fun h => ?_⟩
    · have h : i < 4 := lt_nat h
      have go : ∀ s, stR false 4 ls ks (Int.ofNat i) = s → rowSet ((lastR ls ks).take i ++ rs.drop i) (0 + i * 1) [AV.str s] = (lastR ls ks).take (i + 1) ++ rs.drop (i + 1) := by
        rintro s rfl
        rw [← lastR_at ls ks i h, Nat.zero_add, Nat.mul_one]
        exact last_step _ _ _ (by rw [lastR_len]; exact h) (by rw [lastR_len, c3])
      have pr := fun j => lastR_plain ls ks rs j p3
      have z0 := ilt_ofNat i
      have lL := atL_len (i := Int.ofNat i) c1
      have eL := atL_bytes ls (Int.ofNat i)
      have rL : rowCut (atL ls (Int.ofNat i)) 0 512 = atL ls (Int.ofNat i) := rowCut_id _ _ (by rw [eL, ofBytes_length]; exact lL)
      have bL : bytesOf (atL ls (Int.ofNat i)) = some (bytesL (atL ls (Int.ofNat i))) := by rw [eL, bytesOf_ofBytes, bytesL_ofBytes]
      have c9 := isW_up c4 (by decide)
      simp only [kept_eq, rL, bL, wrap_inc (show i < 9223372036854775807 by omega), Option.getD_some]
      refine ⟨fun h2 => absurd h2 (by rw [ileB_eq]; exact fun h3 => absurd (of_decide_eq_true h3) (by show ¬ (4 : Int) ≤ (i : Int); omega)), fun h2 => ⟨fun h4 => ?_, fun h4 => ⟨fun h5 => ?_, fun h5 => ?_⟩⟩⟩
      · have eW := atW_bytes ks (Int.ofNat i)
        have lW := atW_len c4 h4
        have bW : bytesOf (atW ks (Int.ofNat i)) = some (bytesL (atW ks (Int.ofNat i))) := by rw [eW, bytesOf_ofBytes, bytesL_ofBytes]
        have nW : (atW ks (Int.ofNat i)).length = 512 := by rw [eW, ofBytes_length]; exact lW
        simp only [bW, nW, Option.getD_some]
        rw [go _ (by simp only [stR, hasW_nil, z0, h2, h4, if_true, Bool.false_eq_true, if_false])]
        and_intros
        all_goals with_reducible first
          | assumption
          | exact pr _
          | exact atW_plain _ _
          | exact atL_plain _ _
          | exact nble_iff.2 (by omega)
          | exact nbeq_iff.2 rfl
          | exact nbeq_iff.2 (by assumption)
          | exact Option.isSome_some
          | skip
        exact Stp.go (cc, ls, l2, rs, kn, kl, kc, al, k, js, ks, i + 1) ⟨c1, c2, c3, p1, p2, p3, c4, c5, c6, p4, p5, p6, h⟩ (by simp only; omega) rfl
      · rw [go _ (by simp only [stR, hasW_nil, z0, h2, h4, h5, if_true, Bool.false_eq_true, if_false])]
        and_intros
        all_goals with_reducible first
          | assumption
          | exact pr _
          | exact atW_plain _ _
          | exact atL_plain _ _
          | exact nble_iff.2 (by omega)
          | exact nbeq_iff.2 rfl
          | exact nbeq_iff.2 (by assumption)
          | exact Option.isSome_some
          | skip
        exact Stp.go (cc, ls, l2, rs, kn, kl, kc, al, k, js, ks, i + 1) ⟨c1, c2, c3, p1, p2, p3, c4, c5, c6, p4, p5, p6, h⟩ (by simp only; omega) rfl
      · rw [go _ (by simp only [stR, hasW_nil, z0, h2, h4, h5, if_true, Bool.false_eq_true, if_false])]
        and_intros
        all_goals with_reducible first
          | assumption
          | exact pr _
          | exact atW_plain _ _
          | exact atL_plain _ _
          | exact nble_iff.2 (by omega)
          | exact nbeq_iff.2 rfl
          | exact nbeq_iff.2 (by assumption)
          | exact Option.isSome_some
          | skip
        exact Stp.go (cc, ls, l2, rs, kn, kl, kc, al, k, js, ks, i + 1) ⟨c1, c2, c3, p1, p2, p3, c4, c5, c6, p4, p5, p6, h⟩ (by simp only; omega) rfl
    · have h : 4 ≤ i := ge_nat h
      have hi : i = 4 := by omega
      subst hi
      have pr := lastR_plain ls ks rs 4 p3
      and_intros
      all_goals with_reducible first
        | assumption
        | skip
      exact Stp.fin (by simp only [lastR_end ls ks rs c3])
theorem laZN_ok : ZLoop.OK Try.prog (tyCx tys) (flOf tys) 4 { laL with m := laZN } := by
  refine ZLoop.wp (cxZ cx_goes) allM14 4 40 40 (b := roundOf (blockOf Try.f4 4)) (by kernel_rfl) (by kernel_rfl) (α := Option Nat × List AV × List AV × List AV × Bool × Nat)
    (fun (cc, ls, l2, rs, al, i) => ([.slice none 0 (some 0), .bool al, .ptr (some (0, 0)), .ptr (some (1, 0)), .slice none 0 (some 0), .slice (some (2, 0)) 4 (some 4), .slice (some (2, 0)) 4 (some 4), .int .i64 (Int.ofNat 4), .int .i64 (Int.ofNat i)], [.cells true 145 4 [.slice (some (3, 0)) 4 cc, .slice none 0 (some 0), .bool false, .ptr none], .cells true 145 4 [.slice (some (4, 0)) 4 none, .slice none 0 (some 0), .bool false, .ptr none], .cells true 9 4 ((lastR ls []).take i ++ rs.drop i), .cells true 151 8 ls, .cells true 151 8 l2])) (fun (cc, ls, l2, rs, al, i) => isL ls = true ∧ ls.length = 8 ∧ rs.length = 4 ∧ AV.plainL ls = true ∧ AV.plainL l2 = true ∧ AV.plainL rs = true ∧ i ≤ 4) (fun _ => 5) (fun (cc, ls, l2, rs, al, i) => 4 - i) (fun (cc, ls, l2, rs, al, i) => (.exit 4, [.slice none 0 (some 0), .bool al, .ptr (some (0, 0)), .ptr (some (1, 0)), .slice none 0 (some 0), .slice (some (2, 0)) 4 (some 4), .slice (some (2, 0)) 4 (some 4), .int .i64 (Int.ofNat 4), .int .i64 (Int.ofNat 4)], [.cells true 145 4 [.slice (some (3, 0)) 4 cc, .slice none 0 (some 0), .bool false, .ptr none], .cells true 145 4 [.slice (some (4, 0)) 4 none, .slice none 0 (some 0), .bool false, .ptr none], .cells true 9 4 (lastR ls []), .cells true 151 8 ls, .cells true 151 8 l2])) ?_ ?_
  · intro vs bs conds X vs' bs' h hc hin
    simp only [laZN] at h
    split at h
    · rename_i al m i cc rs ls l2
      obtain ⟨rfl, rfl, rfl, rfl⟩ := some5 h
      simp only [allTrue_cons, nbeq_iff, nble_iff] at hc
      obtain ⟨c1, c2, c3, rfl, rfl, _⟩ := hc
      exact ⟨(cc, ls, l2, rs, al, 0), ⟨c1, c2, c3, zin_plain hin 3 rfl (by kernel_rfl), zin_plain hin 4 rfl (by kernel_rfl), zin_plain hin 2 rfl (by kernel_rfl), Nat.zero_le _⟩, rfl, rfl, rfl, by rw [kept_eq]⟩
    · cases h
  · rintro ⟨cc, ls, l2, rs, al, i⟩ ⟨c1, c2, c3, p1, p2, p3, hi⟩
    refine laZN_w cc ls l2 ((lastR ls []).take i ++ rs.drop i) al 4 i _ ⟨fun h => ?_, fun h => ?_⟩
    · have h : i < 4 := lt_nat h
      have go : ∀ s, stR false 4 ls [] (Int.ofNat i) = s → rowSet ((lastR ls []).take i ++ rs.drop i) (0 + i * 1) [AV.str s] = (lastR ls []).take (i + 1) ++ rs.drop (i + 1) := by
        rintro s rfl
        rw [← lastR_at ls [] i h, Nat.zero_add, Nat.mul_one]
        exact last_step _ _ _ (by rw [lastR_len]; exact h) (by rw [lastR_len, c3])
      have pr := fun j => lastR_plain ls [] rs j p3
      have z0 := ilt_ofNat i
      have lL := atL_len (i := Int.ofNat i) c1
      have eL := atL_bytes ls (Int.ofNat i)
      have rL : rowCut (atL ls (Int.ofNat i)) 0 512 = atL ls (Int.ofNat i) := rowCut_id _ _ (by rw [eL, ofBytes_length]; exact lL)
      have bL : bytesOf (atL ls (Int.ofNat i)) = some (bytesL (atL ls (Int.ofNat i))) := by rw [eL, bytesOf_ofBytes, bytesL_ofBytes]
      simp only [kept_eq, rL, bL, wrap_inc (show i < 9223372036854775807 by omega), Option.getD_some]
      refine ⟨fun h2 => absurd h2 (by rw [ileB_eq]; exact fun h3 => absurd (of_decide_eq_true h3) (by show ¬ (4 : Int) ≤ (i : Int); omega)), fun h2 => ⟨fun h4 => ?_, fun h4 => ?_⟩⟩
      · rw [go _ (by simp only [stR, hasW_nil, z0, h2, h4, if_true, Bool.false_eq_true, if_false])]
        and_intros
        all_goals with_reducible first
          | assumption
          | exact pr _
          | exact atW_plain _ _
          | exact atL_plain _ _
          | exact nble_iff.2 (by omega)
          | exact nbeq_iff.2 rfl
          | exact nbeq_iff.2 (by assumption)
          | exact Option.isSome_some
          | skip
        exact Stp.go (cc, ls, l2, rs, al, i + 1) ⟨c1, c2, c3, p1, p2, p3, h⟩ (by simp only; omega) rfl
      · rw [go _ (by simp only [stR, hasW_nil, z0, h2, h4, if_true, Bool.false_eq_true, if_false])]
        and_intros
        all_goals with_reducible first
          | assumption
          | exact pr _
          | exact atW_plain _ _
          | exact atL_plain _ _
          | exact nble_iff.2 (by omega)
          | exact nbeq_iff.2 rfl
          | exact nbeq_iff.2 (by assumption)
          | exact Option.isSome_some
          | skip
        exact Stp.go (cc, ls, l2, rs, al, i + 1) ⟨c1, c2, c3, p1, p2, p3, h⟩ (by simp only; omega) rfl
    · have h : 4 ≤ i := ge_nat h
      have hi : i = 4 := by omega
      subst hi
      have pr := lastR_plain ls [] rs 4 p3
      and_intros
      all_goals with_reducible first
        | assumption
        | skip
      exact Stp.fin (by simp only [lastR_end ls [] rs c3])
theorem laOK_ok : ZLoop.OK Try.prog (tyCx tys) (flOf tys) 4 { laL with m := laOK } := by
  refine ZLoop.wp (cxZ cx_goes) allM14 4 40 40 (b := roundOf (blockOf Try.f4 4)) (by kernel_rfl) (by kernel_rfl) (α := Option Nat × List AV × List AV × List AV × Nat × List AV × Bool × Nat × List AV × List AV × Nat)
    (fun (cc, ls, l2, rs, qn, kb, al, k, js, ks, i) => ([.slice (some (0, 0)) qn none, .bool al, .ptr (some (1, 0)), .ptr (some (2, 0)), .slice (some (3, 0)) k none, .slice (some (4, 0)) 4 (some 4), .slice (some (4, 0)) 4 (some 4), .int .i64 (Int.ofNat 4), .int .i64 (Int.ofNat i)], [.cells true 4 qn kb, .cells true 145 4 [.slice (some (5, 0)) 4 cc, .slice (some (6, 0)) k none, .bool false, .ptr none], .cells true 145 4 [.slice (some (7, 0)) 4 none, .slice none 0 (some 0), .bool false, .ptr none], .cells true 48 (k * 2) js, .cells true 9 4 ((lastR ls ks).take i ++ rs.drop i), .cells true 151 8 ls, .cells true 48 (k * 2) ks, .cells true 151 8 l2])) (fun (cc, ls, l2, rs, qn, kb, al, k, js, ks, i) => isL ls = true ∧ ls.length = 8 ∧ rs.length = 4 ∧ AV.plainL ls = true ∧ AV.plainL l2 = true ∧ AV.plainL rs = true ∧ isW 4 ks = true ∧ ks.length = k * 2 ∧ k ≤ 100000 ∧ AV.plainL js = true ∧ AV.plainL ks = true ∧ AV.plainL kb = true ∧ i ≤ 4) (fun _ => 8) (fun (cc, ls, l2, rs, qn, kb, al, k, js, ks, i) => 4 - i) (fun (cc, ls, l2, rs, qn, kb, al, k, js, ks, i) => (.exit 4, [.slice (some (0, 0)) qn none, .bool al, .ptr (some (1, 0)), .ptr (some (2, 0)), .slice (some (3, 0)) k none, .slice (some (4, 0)) 4 (some 4), .slice (some (4, 0)) 4 (some 4), .int .i64 (Int.ofNat 4), .int .i64 (Int.ofNat 4)], [.cells true 4 qn kb, .cells true 145 4 [.slice (some (5, 0)) 4 cc, .slice (some (6, 0)) k none, .bool false, .ptr none], .cells true 145 4 [.slice (some (7, 0)) 4 none, .slice none 0 (some 0), .bool false, .ptr none], .cells true 48 (k * 2) js, .cells true 9 4 (lastR ls ks), .cells true 151 8 ls, .cells true 48 (k * 2) ks, .cells true 151 8 l2])) ?_ ?_
  · intro vs bs conds X vs' bs' h hc hin
    simp only [laOK] at h
    split at h
    · rename_i qn al k m i q0 kb cc k3 a js rs ls b ks l2
      obtain ⟨rfl, rfl, rfl, rfl⟩ := some5 h
      simp only [allTrue_cons, nbeq_iff, nble_iff] at hc
      obtain ⟨c1, c2, c3, rfl, rfl, c4, c5, c6, rfl, rfl, rfl, rfl, _⟩ := hc
      exact ⟨(cc, ls, l2, rs, q0, kb, al, k3, js, ks, 0), ⟨c1, c2, c3, zin_plain hin 5 rfl (by kernel_rfl), zin_plain hin 7 rfl (by kernel_rfl), zin_plain hin 4 rfl (by kernel_rfl), c4, c5, c6, zin_plain hin 3 rfl (by kernel_rfl), zin_plain hin 6 rfl (by kernel_rfl), zin_plain hin 0 rfl (by kernel_rfl), Nat.zero_le _⟩, rfl, rfl, rfl, by rw [kept_eq]⟩
    · cases h
  · rintro ⟨cc, ls, l2, rs, qn, kb, al, k, js, ks, i⟩ ⟨c1, c2, c3, p1, p2, p3, c4, c5, c6, p4, p5, p6, hi⟩
    refine laOK_w cc ls l2 ((lastR ls ks).take i ++ rs.drop i) qn kb al k js ks 4 i _ ⟨fun h => ?_, fun h => ?_⟩
    · have h : i < 4 := lt_nat h
      have go : ∀ s, stR false 4 ls ks (Int.ofNat i) = s → rowSet ((lastR ls ks).take i ++ rs.drop i) (0 + i * 1) [AV.str s] = (lastR ls ks).take (i + 1) ++ rs.drop (i + 1) := by
        rintro s rfl
        rw [← lastR_at ls ks i h, Nat.zero_add, Nat.mul_one]
        exact last_step _ _ _ (by rw [lastR_len]; exact h) (by rw [lastR_len, c3])
      have pr := fun j => lastR_plain ls ks rs j p3
      have z0 := ilt_ofNat i
      have lL := atL_len (i := Int.ofNat i) c1
      have eL := atL_bytes ls (Int.ofNat i)
      have rL : rowCut (atL ls (Int.ofNat i)) 0 512 = atL ls (Int.ofNat i) := rowCut_id _ _ (by rw [eL, ofBytes_length]; exact lL)
      have bL : bytesOf (atL ls (Int.ofNat i)) = some (bytesL (atL ls (Int.ofNat i))) := by rw [eL, bytesOf_ofBytes, bytesL_ofBytes]
      have c9 := isW_up c4 (by decide)
      simp only [kept_eq, rL, bL, wrap_inc (show i < 9223372036854775807 by omega), Option.getD_some]
      refine ⟨fun h2 => absurd h2 (by rw [ileB_eq]; exact fun h3 => absurd (of_decide_eq_true h3) (by show ¬ (4 : Int) ≤ (i : Int); omega)), fun h2 => ⟨fun h4 => ?_, fun h4 => ⟨fun h5 => ?_, fun h5 => ?_⟩⟩⟩
      · have eW := atW_bytes ks (Int.ofNat i)
        have lW := atW_len c4 h4
        have bW : bytesOf (atW ks (Int.ofNat i)) = some (bytesL (atW ks (Int.ofNat i))) := by rw [eW, bytesOf_ofBytes, bytesL_ofBytes]
        have nW : (atW ks (Int.ofNat i)).length = 512 := by rw [eW, ofBytes_length]; exact lW
        simp only [bW, nW, Option.getD_some]
        rw [go _ (by simp only [stR, hasW_nil, z0, h2, h4, if_true, Bool.false_eq_true, if_false])]
        and_intros
        all_goals with_reducible first
          | assumption
          | exact pr _
          | exact atW_plain _ _
          | exact atL_plain _ _
          | exact nble_iff.2 (by omega)
          | exact nbeq_iff.2 rfl
          | exact nbeq_iff.2 (by assumption)
          | exact Option.isSome_some
          | skip
        exact Stp.go (cc, ls, l2, rs, qn, kb, al, k, js, ks, i + 1) ⟨c1, c2, c3, p1, p2, p3, c4, c5, c6, p4, p5, p6, h⟩ (by simp only; omega) rfl
      · rw [go _ (by simp only [stR, hasW_nil, z0, h2, h4, h5, if_true, Bool.false_eq_true, if_false])]
        and_intros
        all_goals with_reducible first
          | assumption
          | exact pr _
          | exact atW_plain _ _
          | exact atL_plain _ _
          | exact nble_iff.2 (by omega)
          | exact nbeq_iff.2 rfl
          | exact nbeq_iff.2 (by assumption)
          | exact Option.isSome_some
          | skip
        exact Stp.go (cc, ls, l2, rs, qn, kb, al, k, js, ks, i + 1) ⟨c1, c2, c3, p1, p2, p3, c4, c5, c6, p4, p5, p6, h⟩ (by simp only; omega) rfl
      · rw [go _ (by simp only [stR, hasW_nil, z0, h2, h4, h5, if_true, Bool.false_eq_true, if_false])]
        and_intros
        all_goals with_reducible first
          | assumption
          | exact pr _
          | exact atW_plain _ _
          | exact atL_plain _ _
          | exact nble_iff.2 (by omega)
          | exact nbeq_iff.2 rfl
          | exact nbeq_iff.2 (by assumption)
          | exact Option.isSome_some
          | skip
        exact Stp.go (cc, ls, l2, rs, qn, kb, al, k, js, ks, i + 1) ⟨c1, c2, c3, p1, p2, p3, c4, c5, c6, p4, p5, p6, h⟩ (by simp only; omega) rfl
    · have h : 4 ≤ i := ge_nat h
      have hi : i = 4 := by omega
      subst hi
      have pr := lastR_plain ls ks rs 4 p3
      and_intros
      all_goals with_reducible first
        | assumption
        | skip
      exact Stp.fin (by simp only [lastR_end ls ks rs c3])
theorem laL_ok : laL.OK Try.prog (tyCx tys) (flOf tys) 4 := ZLoop.or (m1 := laFN) (m2 := fun vs bs => (laFK vs bs).or ((laZN vs bs).or (laOK vs bs))) rfl laFN_ok (ZLoop.or (m1 := laFK) (m2 := fun vs bs => (laZN vs bs).or (laOK vs bs)) rfl laFK_ok (ZLoop.or (m1 := laZN) (m2 := laOK) rfl laZN_ok laOK_ok))
end Go.Proofs.Ytlmgdpaajongbaa
end
end

section
noncomputable section
namespace Go.Ab
namespace M
def inF (w : WL) (i : Int) (b : List UInt8) (ii : Bool) : Bool := w.foldl (fun x p => x || (ieqB p.1 i && bytesEq p.2 b)) ii
def inW (js : List AV) (i : Int) (bs : List AV) (ii : Bool) : Bool := inF (decW js) i (bytesL bs) ii
end M
open M
end Go.Ab
namespace Go.Proofs.Ytlmgdpaajongbaa
open Go.Ab.M Go.Ab Go
def inNM (vs : List AV) (bs : List Blk) : DT (List Bool × AX × List AV × List Blk) := match vs, bs with
  | [.bool al, .ptr (some (0, 0)), .ptr (some (1, 0)), .slice none 0 (some 0), .slice (some (2, 0)) 4 (some 4), .int .i64 i, .slice (some (3, 0)) 512 (some 512), .int .i64 e1, .slice (some (4, 0)) 512 (some 512), .int .i64 f1, .bool ii, .int .i64 i2, .slice none 0 (some 0), .int .i64 (.ofNat 0), .int .i64 (.ofNat 0)], [.cells true 145 4 [.slice (some (5, 0)) 4 cc, .slice none 0 (some 0), .bool false, .ptr none], .cells true 145 4 [.slice (some (6, 0)) 4 none, .slice none 0 (some 0), .bool false, .ptr none], .cells true 9 4 rs, .cells true 5 512 bs, .cells true 5 512 ws, .cells true 151 8 ls, .cells true 151 8 l2] => .leaf ([], .normal, [.bool al, .ptr (some (0, 0)), .ptr (some (1, 0)), .slice none 0 (some 0), .slice (some (2, 0)) 4 (some 4), .int .i64 i, .slice (some (3, 0)) 512 (some 512), .int .i64 e1, .slice (some (4, 0)) 512 (some 512), .int .i64 f1, .bool ii, .int .i64 i2, .slice none 0 (some 0), .int .i64 (Int.ofNat 0), .int .i64 (Int.ofNat 0)], [.cells true 145 4 [.slice (some (5, 0)) 4 cc, .slice none 0 (some 0), .bool false, .ptr none], .cells true 145 4 [.slice (some (6, 0)) 4 none, .slice none 0 (some 0), .bool false, .ptr none], .cells true 9 4 rs, .cells true 5 512 bs, .cells true 5 512 ws, .cells true 151 8 ls, .cells true 151 8 l2])
  | _, _ => .no
def inKM (vs : List AV) (bs : List Blk) : DT (List Bool × AX × List AV × List Blk) := match vs, bs with
  | [.bool al, .ptr (some (0, 0)), .ptr (some (1, 0)), .slice (some (2, 0)) k none, .slice (some (3, 0)) 4 (some 4), .int .i64 i, .slice (some (4, 0)) 512 (some 512), .int .i64 e1, .slice (some (5, 0)) 512 (some 512), .int .i64 f1, .bool ii, .int .i64 i2, .slice (some (2, 0)) k2 none, .int .i64 (.ofNat m), .int .i64 (.ofNat j)], [.cells true 145 4 [.slice (some (6, 0)) 4 cc, .slice none 0 (some 0), .bool false, .ptr none], .cells true 145 4 [.slice (some (7, 0)) 4 none, .slice none 0 (some 0), .bool false, .ptr none], .cells true 48 a js, .cells true 9 4 rs, .cells true 5 512 bs, .cells true 5 512 ws, .cells true 151 8 ls, .cells true 151 8 l2] => .leaf ([isW 4096 js, Nat.beq js.length (k * 2), u8L bs, Nat.beq bs.length 512, Nat.beq k2 k, Nat.beq a (k * 2), Nat.beq m k, Nat.beq j 0, Nat.ble k 100000], .normal, [.bool al, .ptr (some (0, 0)), .ptr (some (1, 0)), .slice (some (2, 0)) k none, .slice (some (3, 0)) 4 (some 4), .int .i64 i, .slice (some (4, 0)) 512 (some 512), .int .i64 e1, .slice (some (5, 0)) 512 (some 512), .int .i64 f1, .bool (kept (inW js i bs ii)), .int .i64 i2, .slice (some (2, 0)) k none, .int .i64 (Int.ofNat k), .int .i64 (Int.ofNat k)], [.cells true 145 4 [.slice (some (6, 0)) 4 cc, .slice none 0 (some 0), .bool false, .ptr none], .cells true 145 4 [.slice (some (7, 0)) 4 none, .slice none 0 (some 0), .bool false, .ptr none], .cells true 48 (k * 2) js, .cells true 9 4 rs, .cells true 5 512 bs, .cells true 5 512 ws, .cells true 151 8 ls, .cells true 151 8 l2])
  | _, _ => .no
def inL : ZLoop := ⟨161, blockOf Try.f4 8, [2, 7, 11, 12, 13, 17, 18, 19, 20, 21, 22, 96, 116, 117, 118], 0, [], fun vs bs => (inNM vs bs).or (inKM vs bs)⟩
theorem inN_w (cc : Option Nat) (al : Bool) (i : Int) (e1 : Int) (f1 : Int) (i2 : Int) (ii : Bool) (rs : List AV) (bs : List AV) (ws : List AV) (ls : List AV) (l2 : List AV) (E : AX → List AV → List Blk → Prop) (h :
    AV.plainL rs ∧ AV.plainL bs ∧ AV.plainL ws ∧ AV.plainL ls ∧ AV.plainL l2 ∧ E (.exit 8) ([.bool al, .ptr (some (0, 0)), .ptr (some (1, 0)), .slice none 0 (some 0), .slice (some (2, 0)) 4 (some 4), .int .i64 i, .slice (some (3, 0)) 512 (some 512), .int .i64 e1, .slice (some (4, 0)) 512 (some 512), .int .i64 f1, .bool ii, .int .i64 i2, .slice none 0 (some 0), .int .i64 (Int.ofNat 0), .int .i64 (Int.ofNat 0)]) ([.cells true 145 4 [.slice (some (5, 0)) 4 cc, .slice none 0 (some 0), .bool false, .ptr none], .cells true 145 4 [.slice (some (6, 0)) 4 none, .slice none 0 (some 0), .bool false, .ptr none], .cells true 9 4 rs, .cells true 5 512 bs, .cells true 5 512 ws, .cells true 151 8 ls, .cells true 151 8 l2])) :
    ∃ q, roundS tys fns KM14 40 4 40 inL (roundOf (blockOf Try.f4 8)) 7 ([.bool al, .ptr (some (0, 0)), .ptr (some (1, 0)), .slice none 0 (some 0), .slice (some (2, 0)) 4 (some 4), .int .i64 i, .slice (some (3, 0)) 512 (some 512), .int .i64 e1, .slice (some (4, 0)) 512 (some 512), .int .i64 f1, .bool ii, .int .i64 i2, .slice none 0 (some 0), .int .i64 (Int.ofNat 0), .int .i64 (Int.ofNat 0)], [.cells true 145 4 [.slice (some (5, 0)) 4 cc, .slice none 0 (some 0), .bool false, .ptr none], .cells true 145 4 [.slice (some (6, 0)) 4 none, .slice none 0 (some 0), .bool false, .ptr none], .cells true 9 4 rs, .cells true 5 512 bs, .cells true 5 512 ws, .cells true 151 8 ls, .cells true 151 8 l2]) q (fun x _ => E x.1 x.2.1 x.2.2) := wp_of (qN [19, 0, 4, 0, 4, 0, 4, 0, 4, 0, 3]) (by kernel_rfl) h
theorem inK_w (cc : Option Nat) (al : Bool) (i : Int) (e1 : Int) (f1 : Int) (i2 : Int) (ii : Bool) (rs : List AV) (bs : List AV) (ws : List AV) (ls : List AV) (l2 : List AV) (k : Nat) (js : List AV) (m : Nat) (j : Nat) (E : AX → List AV → List Blk → Prop) (h :
    (iltB (Int.ofNat j) (Int.ofNat m) → j.succ.ble k ∧ (0 + j * 2 + 2).ble (k * 2) ∧ (0 + j * 2).succ.ble js.length ∧ AV.isInt .i64 (cA js (0 + j * 2)) ∧ (0 + j * 2 + 1).succ.ble js.length ∧ (cA js (0 + j * 2 + 1)).isFsl ∧ (ii → AV.plainL js ∧ AV.plainL rs ∧ AV.plainL bs ∧ AV.plainL ws ∧ AV.plainL ls ∧ AV.plainL l2 ∧ E .normal ([.bool al, .ptr (some (0, 0)), .ptr (some (1, 0)), .slice (some (2, 0)) k none, .slice (some (3, 0)) 4 (some 4), .int .i64 i, .slice (some (4, 0)) 512 (some 512), .int .i64 e1, .slice (some (5, 0)) 512 (some 512), .int .i64 f1, .bool true, .int .i64 i2, .slice (some (2, 0)) k none, .int .i64 (Int.ofNat m), .int .i64 (wrapA .i64 ((Int.ofNat j).add (Int.ofNat 1)))]) ([.cells true 145 4 [.slice (some (6, 0)) 4 cc, .slice none 0 (some 0), .bool false, .ptr none], .cells true 145 4 [.slice (some (7, 0)) 4 none, .slice none 0 (some 0), .bool false, .ptr none], .cells true 48 (k * 2) js, .cells true 9 4 rs, .cells true 5 512 bs, .cells true 5 512 ws, .cells true 151 8 ls, .cells true 151 8 l2])) ∧ (ii = false → (ieqB (cA js (0 + j * 2)).intOf i → (cA js (0 + j * 2 + 1)).fslCells.length.beq (cA js (0 + j * 2 + 1)).fslLen ∧ (bytesOf (cA js (0 + j * 2 + 1)).fslCells).isSome ∧ (bytesOf (rowCut bs 0 512)).isSome ∧ AV.plainL js ∧ AV.plainL rs ∧ AV.plainL bs ∧ AV.plainL ws ∧ AV.plainL ls ∧ AV.plainL l2 ∧ E .normal ([.bool al, .ptr (some (0, 0)), .ptr (some (1, 0)), .slice (some (2, 0)) k none, .slice (some (3, 0)) 4 (some 4), .int .i64 i, .slice (some (4, 0)) 512 (some 512), .int .i64 e1, .slice (some (5, 0)) 512 (some 512), .int .i64 f1, .bool (bytesEq ((bytesOf (cA js (0 + j * 2 + 1)).fslCells).getD []) ((bytesOf (rowCut bs 0 512)).getD [])), .int .i64 i2, .slice (some (2, 0)) k none, .int .i64 (Int.ofNat m), .int .i64 (wrapA .i64 ((Int.ofNat j).add (Int.ofNat 1)))]) ([.cells true 145 4 [.slice (some (6, 0)) 4 cc, .slice none 0 (some 0), .bool false, .ptr none], .cells true 145 4 [.slice (some (7, 0)) 4 none, .slice none 0 (some 0), .bool false, .ptr none], .cells true 48 (k * 2) js, .cells true 9 4 rs, .cells true 5 512 bs, .cells true 5 512 ws, .cells true 151 8 ls, .cells true 151 8 l2])) ∧ (ieqB (cA js (0 + j * 2)).intOf i = false → AV.plainL js ∧ AV.plainL rs ∧ AV.plainL bs ∧ AV.plainL ws ∧ AV.plainL ls ∧ AV.plainL l2 ∧ E .normal ([.bool al, .ptr (some (0, 0)), .ptr (some (1, 0)), .slice (some (2, 0)) k none, .slice (some (3, 0)) 4 (some 4), .int .i64 i, .slice (some (4, 0)) 512 (some 512), .int .i64 e1, .slice (some (5, 0)) 512 (some 512), .int .i64 f1, .bool false, .int .i64 i2, .slice (some (2, 0)) k none, .int .i64 (Int.ofNat m), .int .i64 (wrapA .i64 ((Int.ofNat j).add (Int.ofNat 1)))]) ([.cells true 145 4 [.slice (some (6, 0)) 4 cc, .slice none 0 (some 0), .bool false, .ptr none], .cells true 145 4 [.slice (some (7, 0)) 4 none, .slice none 0 (some 0), .bool false, .ptr none], .cells true 48 (k * 2) js, .cells true 9 4 rs, .cells true 5 512 bs, .cells true 5 512 ws, .cells true 151 8 ls, .cells true 151 8 l2])))) ∧ (iltB (Int.ofNat j) (Int.ofNat m) = false → AV.plainL js ∧ AV.plainL rs ∧ AV.plainL bs ∧ AV.plainL ws ∧ AV.plainL ls ∧ AV.plainL l2 ∧ E (.exit 8) ([.bool al, .ptr (some (0, 0)), .ptr (some (1, 0)), .slice (some (2, 0)) k none, .slice (some (3, 0)) 4 (some 4), .int .i64 i, .slice (some (4, 0)) 512 (some 512), .int .i64 e1, .slice (some (5, 0)) 512 (some 512), .int .i64 f1, .bool ii, .int .i64 i2, .slice (some (2, 0)) k none, .int .i64 (Int.ofNat m), .int .i64 (Int.ofNat j)]) ([.cells true 145 4 [.slice (some (6, 0)) 4 cc, .slice none 0 (some 0), .bool false, .ptr none], .cells true 145 4 [.slice (some (7, 0)) 4 none, .slice none 0 (some 0), .bool false, .ptr none], .cells true 48 (k * 2) js, .cells true 9 4 rs, .cells true 5 512 bs, .cells true 5 512 ws, .cells true 151 8 ls, .cells true 151 8 l2]))) :
    ∃ q, roundS tys fns KM14 40 4 40 inL (roundOf (blockOf Try.f4 8)) 8 ([.bool al, .ptr (some (0, 0)), .ptr (some (1, 0)), .slice (some (2, 0)) k none, .slice (some (3, 0)) 4 (some 4), .int .i64 i, .slice (some (4, 0)) 512 (some 512), .int .i64 e1, .slice (some (5, 0)) 512 (some 512), .int .i64 f1, .bool ii, .int .i64 i2, .slice (some (2, 0)) k none, .int .i64 (Int.ofNat m), .int .i64 (Int.ofNat j)], [.cells true 145 4 [.slice (some (6, 0)) 4 cc, .slice none 0 (some 0), .bool false, .ptr none], .cells true 145 4 [.slice (some (7, 0)) 4 none, .slice none 0 (some 0), .bool false, .ptr none], .cells true 48 (k * 2) js, .cells true 9 4 rs, .cells true 5 512 bs, .cells true 5 512 ws, .cells true 151 8 ls, .cells true 151 8 l2]) q (fun x _ => E x.1 x.2.1 x.2.2) := wp_of (qN [4, 2, 4, 0, 0, 0, 0, 0, 0, 6, 2, 31, 0, 4, 0, 4, 0, 4, 0, 4, 0, 4, 0, 3, 15, 2, 11, 0, 0, 8, 0, 25, 0, 4, 0, 4, 0, 4, 0, 4, 0, 4, 0, 3, 34, 0, 4, 0, 4, 0, 4, 0, 4, 0, 4, 0, 3, 19, 0, 4, 0, 4, 0, 4, 0, 4, 0, 4, 0, 3]) (by kernel_rfl) h
theorem inN_ok : ZLoop.OK Try.prog (tyCx tys) (flOf tys) 8 { inL with m := inNM } := by
  refine ZLoop.wp0 (cxZ cx_goes) allM14 4 40 40 (b := roundOf (blockOf Try.f4 8)) (by kernel_rfl) (by kernel_rfl) fun vs bs conds X vs' bs' h hc hin => ?_
  simp only [inNM] at h
  split at h
  · rename_i al i e1 f1 ii i2 cc rs bs ws ls l2
    obtain ⟨rfl, rfl, rfl, rfl⟩ := some5 h
    exact ⟨.exit 8, AX.noConfusion, rfl, inN_w cc al i e1 f1 i2 ii rs bs ws ls l2 _ ⟨zin_plain hin 2 rfl (by kernel_rfl), zin_plain hin 3 rfl (by kernel_rfl), zin_plain hin 4 rfl (by kernel_rfl), zin_plain hin 5 rfl (by kernel_rfl), zin_plain hin 6 rfl (by kernel_rfl), rfl, rfl, rfl⟩⟩
  · cases h
abbrev InP := Option Nat × Bool × Int × Int × Int × Int × Bool × List AV × List UInt8 × List AV × List AV × List AV × WL × Nat
def inEnc : InP → ZSt := fun (cc, al, i, e1, f1, i2, ii, rs, b, ws, ls, l2, w, j) => ([.bool al, .ptr (some (0, 0)), .ptr (some (1, 0)), .slice (some (2, 0)) w.length none, .slice (some (3, 0)) 4 (some 4), .int .i64 i, .slice (some (4, 0)) 512 (some 512), .int .i64 e1, .slice (some (5, 0)) 512 (some 512), .int .i64 f1, .bool (inF (w.take j) i b ii), .int .i64 i2, .slice (some (2, 0)) w.length none, .int .i64 (Int.ofNat w.length), .int .i64 (Int.ofNat j)], [.cells true 145 4 [.slice (some (6, 0)) 4 cc, .slice none 0 (some 0), .bool false, .ptr none], .cells true 145 4 [.slice (some (7, 0)) 4 none, .slice none 0 (some 0), .bool false, .ptr none], .cells true 48 (w.length * 2) (encW w), .cells true 9 4 rs, .cells true 5 512 (ofBytes b), .cells true 5 512 ws, .cells true 151 8 ls, .cells true 151 8 l2])
theorem inK_ok : ZLoop.OK Try.prog (tyCx tys) (flOf tys) 8 { inL with m := inKM } := by
  refine ZLoop.wp (cxZ cx_goes) allM14 4 40 40 (b := roundOf (blockOf Try.f4 8)) (by kernel_rfl) (by kernel_rfl) inEnc
    (fun (cc, al, i, e1, f1, i2, ii, rs, b, ws, ls, l2, w, j) => AV.plainL rs = true ∧ AV.plainL ws = true ∧ AV.plainL ls = true ∧ AV.plainL l2 = true ∧ b.length = 512 ∧ j ≤ w.length ∧ w.length ≤ 100000) (fun _ => 8)
    (fun (cc, al, i, e1, f1, i2, ii, rs, b, ws, ls, l2, w, j) => w.length - j) (fun (cc, al, i, e1, f1, i2, ii, rs, b, ws, ls, l2, w, j) => (.exit 8, inEnc (cc, al, i, e1, f1, i2, ii, rs, b, ws, ls, l2, w, w.length))) ?_ ?_
  · intro vs bs conds X vs' bs' h hc hin
    simp only [inKM] at h
    split at h
    · rename_i al k i e1 f1 ii i2 k2 m j cc a js rs bs ws ls l2
      obtain ⟨rfl, rfl, rfl, rfl⟩ := some5 h
      simp only [allTrue_cons, nbeq_iff, nble_iff] at hc
      obtain ⟨c1, c2, c3, c4, rfl, rfl, rfl, rfl, c5, _⟩ := hc
      obtain ⟨w, rfl, hw⟩ := isW_iff.1 c1
      rw [encW_length] at c2
      have c2 : m = w.length := by omega
      subst c2
      obtain ⟨b, rfl⟩ := u8L_iff.1 c3
      rw [ofBytes_length] at c4
      refine ⟨(cc, al, i, e1, f1, i2, ii, rs, b, ws, ls, l2, w, 0), ⟨zin_plain hin 3 rfl (by kernel_rfl), zin_plain hin 5 rfl (by kernel_rfl), zin_plain hin 6 rfl (by kernel_rfl), zin_plain hin 7 rfl (by kernel_rfl), c4, Nat.zero_le _, c5⟩, rfl, rfl, rfl, ?_⟩
      have e : inW (encW w) i (ofBytes b) ii = inF (w.take w.length) i b ii := by unfold inW; rw [decW_encW, bytesL_ofBytes, List.take_length]
      rw [kept_eq, e]; rfl
    · cases h
  · rintro ⟨cc, al, i, e1, f1, i2, ii, rs, b, ws, ls, l2, w, j⟩ ⟨p1, p2, p3, p4, hb, hj, hk⟩
    refine inK_w cc al i e1 f1 i2 (inF (w.take j) i b ii) rs (ofBytes b) ws ls l2 w.length (encW w) w.length j _ ⟨fun h => ?_, fun h => ?_⟩
    · have h : j < w.length := lt_nat h
      have z := cA_encW w j h
      have rb : rowCut (ofBytes b) 0 512 = ofBytes b := rowCut_id _ _ (by rw [ofBytes_length]; exact hb)
      have st : inF (w.take (j + 1)) i b ii = (inF (w.take j) i b ii || (ieqB w[j].1 i && bytesEq w[j].2 b)) := foldl_take _ _ _ _ h
      have pb := ofBytes_plainM b
      have go : ∀ x, inF (w.take (j + 1)) i b ii = x → Stp inEnc (fun (cc, al, i, e1, f1, i2, ii, rs, b, ws, ls, l2, w, j) => AV.plainL rs = true ∧ AV.plainL ws = true ∧ AV.plainL ls = true ∧ AV.plainL l2 = true ∧ b.length = 512 ∧ j ≤ w.length ∧ w.length ≤ 100000) (fun _ => 8)
          (fun (cc, al, i, e1, f1, i2, ii, rs, b, ws, ls, l2, w, j) => w.length - j) (fun (cc, al, i, e1, f1, i2, ii, rs, b, ws, ls, l2, w, j) => (.exit 8, inEnc (cc, al, i, e1, f1, i2, ii, rs, b, ws, ls, l2, w, w.length))) (cc, al, i, e1, f1, i2, ii, rs, b, ws, ls, l2, w, j) .normal [.bool al, .ptr (some (0, 0)), .ptr (some (1, 0)), .slice (some (2, 0)) w.length none, .slice (some (3, 0)) 4 (some 4), .int .i64 i, .slice (some (4, 0)) 512 (some 512), .int .i64 e1, .slice (some (5, 0)) 512 (some 512), .int .i64 f1, .bool x, .int .i64 i2, .slice (some (2, 0)) w.length none, .int .i64 (Int.ofNat w.length), .int .i64 (Int.ofNat (j + 1))] [.cells true 145 4 [.slice (some (6, 0)) 4 cc, .slice none 0 (some 0), .bool false, .ptr none], .cells true 145 4 [.slice (some (7, 0)) 4 none, .slice none 0 (some 0), .bool false, .ptr none], .cells true 48 (w.length * 2) (encW w), .cells true 9 4 rs, .cells true 5 512 (ofBytes b), .cells true 5 512 ws, .cells true 151 8 ls, .cells true 151 8 l2] := by
        rintro x rfl
        exact Stp.go (cc, al, i, e1, f1, i2, ii, rs, b, ws, ls, l2, w, j + 1) ⟨p1, p2, p3, p4, hb, h, hk⟩ (by simp only; omega) rfl
      simp only [Nat.zero_add, z.1, z.2, AV.intOf, AV.fslLen, AV.fslCells, rb, bytesOf_ofBytes, Option.getD_some, wrap_inc (show j < 9223372036854775807 by omega)]
      refine ⟨nble_iff.2 h, nble_iff.2 (by omega), nble_iff.2 (by rw [encW_length]; omega), rfl, nble_iff.2 (by rw [encW_length]; omega), rfl, fun h2 => ?_, fun h2 => ⟨fun h3 => ?_, fun h3 => ?_⟩⟩
      · exact ⟨encW_plain _, p1, pb, p2, p3, p4, go true (by rw [st, h2]; rfl)⟩
      · exact ⟨nbeq_iff.2 (ofBytes_length _), rfl, rfl, encW_plain _, p1, pb, p2, p3, p4, go _ (by rw [st, h2, h3]; rfl)⟩
      · exact ⟨encW_plain _, p1, pb, p2, p3, p4, go false (by rw [st, h2, h3]; rfl)⟩
    · have h : w.length ≤ j := ge_nat h
      have hj : j = w.length := by omega
      subst hj
      exact ⟨encW_plain _, p1, ofBytes_plainM _, p2, p3, p4, Stp.fin rfl⟩
theorem inL_ok : inL.OK Try.prog (tyCx tys) (flOf tys) 8 := ZLoop.or (m1 := inNM) (m2 := inKM) rfl inN_ok inK_ok
def KM17 : Known := { KM14 with l := [((4, 0), acL), ((4, 2), kpL), ((4, 4), laL), ((4, 8), inL)] }
theorem KM17_ok : KOK Try.prog tys KM17 := ⟨KM14_ok.t, KM14_ok.f, KM14_ok.z, ⟨acL_ok, kpL_ok, laL_ok, inL_ok, trivial⟩⟩
theorem allM17 : SumAll Try.prog (mkCxZ tys fns KM17) := sums_allZ KM17_ok
end Go.Proofs.Ytlmgdpaajongbaa
end
end

section
noncomputable section
namespace Go.Ab
namespace M
def okAt (al : Bool) (ls l2 js rs : List AV) (i : Nat) : Bool := !(lostL ls (Int.ofNat i)) && !(lostL l2 (Int.ofNat i)) && inW js (Int.ofNat i) (atL ls (Int.ofNat i)) (bytesEq (bytesL (atL ls (Int.ofNat i))) (bytesL (atL l2 (Int.ofNat i)))) && (cA rs i).isStr && (!al || bytesEq (bytesL (atL ls (Int.ofNat i))) (cA rs i).strOf)
def showB (al : Bool) (ls l2 js rs : List AV) : Bool := (List.range 4).all (okAt al ls l2 js rs)
end M
open M
theorem showB_at {al : Bool} {ls l2 js rs : List AV} (h : showB al ls l2 js rs = true) {i : Nat} (hi : i < 4) : lostL ls (Int.ofNat i) = false ∧ lostL l2 (Int.ofNat i) = false ∧ inW js (Int.ofNat i) (atL ls (Int.ofNat i)) (bytesEq (bytesL (atL ls (Int.ofNat i))) (bytesL (atL l2 (Int.ofNat i)))) = true ∧ (cA rs i).isStr = true ∧ (al = true → bytesEq (bytesL (atL ls (Int.ofNat i))) (cA rs i).strOf = true) := by
  unfold showB at h
  rw [List.all_eq_true] at h
  have h := h i (List.mem_range.2 hi)
  simp only [okAt, Bool.and_eq_true, Bool.not_eq_true', Bool.or_eq_true] at h
  obtain ⟨⟨⟨⟨h1, h2⟩, h3⟩, h4⟩, h5⟩ := h
  exact ⟨h1, h2, h3, h4, fun ha => by rcases h5 with h5 | h5
                                      · rw [ha] at h5; cases h5
                                      · exact h5⟩
theorem inW_nil (i : Int) (bs : List AV) (ii : Bool) : inW [] i bs ii = ii := rfl
theorem u8L_atL (ls : List AV) (i : Int) : u8L (atL ls i) = true := u8L_ofBytes _
end Go.Ab
namespace Go.Proofs.Ytlmgdpaajongbaa
open Go.Ab.M Go.Ab Go
def shNM (vs : List AV) (bs : List Blk) : DT (List Bool × AX × List AV × List Blk) := match vs, bs with
  | [.bool al, .ptr (some (0, 0)), .ptr (some (1, 0)), .slice none 0 (some 0), .slice (some (2, 0)) 4 (some 4), .int .i64 (.ofNat i)], [.cells true 145 4 [.slice (some (3, 0)) 4 cc, .slice none 0 (some 0), .bool false, .ptr none], .cells true 145 4 [.slice (some (4, 0)) 4 none, .slice none 0 (some 0), .bool false, .ptr none], .cells true 9 4 rs, .cells true 151 8 ls, .cells true 151 8 l2] => .leaf ([showB al ls l2 [] rs, isL ls, isL l2, Nat.beq ls.length 8, Nat.beq l2.length 8, Nat.beq rs.length 4, Nat.beq i 0], .normal, [.bool al, .ptr (some (0, 0)), .ptr (some (1, 0)), .slice none 0 (some 0), .slice (some (2, 0)) 4 (some 4), .int .i64 (Int.ofNat 4)], [.cells true 145 4 [.slice (some (3, 0)) 4 cc, .slice none 0 (some 0), .bool false, .ptr none], .cells true 145 4 [.slice (some (4, 0)) 4 none, .slice none 0 (some 0), .bool false, .ptr none], .cells true 9 4 rs, .cells true 151 8 ls, .cells true 151 8 l2])
  | _, _ => .no
def shKM (vs : List AV) (bs : List Blk) : DT (List Bool × AX × List AV × List Blk) := match vs, bs with
  | [.bool al, .ptr (some (0, 0)), .ptr (some (1, 0)), .slice (some (2, 0)) k none, .slice (some (3, 0)) 4 (some 4), .int .i64 (.ofNat i)], [.cells true 145 4 [.slice (some (4, 0)) 4 cc, .slice none 0 (some 0), .bool false, .ptr none], .cells true 145 4 [.slice (some (5, 0)) 4 none, .slice none 0 (some 0), .bool false, .ptr none], .cells true 48 a js, .cells true 9 4 rs, .cells true 151 8 ls, .cells true 151 8 l2] => .leaf ([showB al ls l2 js rs, isL ls, isL l2, Nat.beq ls.length 8, Nat.beq l2.length 8, Nat.beq rs.length 4, Nat.beq i 0, isW 4096 js, Nat.beq js.length (k * 2), Nat.beq a (k * 2), Nat.ble k 100000], .normal, [.bool al, .ptr (some (0, 0)), .ptr (some (1, 0)), .slice (some (2, 0)) k none, .slice (some (3, 0)) 4 (some 4), .int .i64 (Int.ofNat 4)], [.cells true 145 4 [.slice (some (4, 0)) 4 cc, .slice none 0 (some 0), .bool false, .ptr none], .cells true 145 4 [.slice (some (5, 0)) 4 none, .slice none 0 (some 0), .bool false, .ptr none], .cells true 48 (k * 2) js, .cells true 9 4 rs, .cells true 151 8 ls, .cells true 151 8 l2])
  | _, _ => .no
def shL : ZLoop := ⟨161, blockOf Try.f4 6, [2, 7, 11, 12, 13, 96], 0, [], fun vs bs => (shNM vs bs).or (shKM vs bs)⟩
theorem shN_w (cc : Option Nat) (al : Bool) (rs : List AV) (ls : List AV) (l2 : List AV) (i : Nat) (E : AX → List AV → List Blk → Prop) (h :
    (iltB (Int.ofNat i) (Int.ofNat 4) → ileB (Int.ofNat 4) (Int.ofNat i) = false ∧ lostL ls (Int.ofNat i) = false ∧ AV.plainL ls ∧ AV.plainL ls ∧ isL ls ∧ ls.length.beq 8 ∧ AV.plainL ls ∧ AV.plainL (kept (atL ls (Int.ofNat i))) ∧ ileB (Int.ofNat 4) (Int.ofNat i) = false ∧ lostL l2 (Int.ofNat i) = false ∧ AV.plainL l2 ∧ AV.plainL l2 ∧ isL l2 ∧ l2.length.beq 8 ∧ AV.plainL l2 ∧ AV.plainL (kept (atL l2 (Int.ofNat i))) ∧ (bytesOf (rowCut (kept (atL ls (Int.ofNat i))) 0 512)).isSome ∧ (bytesOf (rowCut (kept (atL l2 (Int.ofNat i))) 0 512)).isSome ∧ Sc (blockOf Try.f4 8) ∧ AV.plainL rs ∧ AV.plainL (kept (atL ls (Int.ofNat i))) ∧ AV.plainL (kept (atL l2 (Int.ofNat i))) ∧ AV.plainL ls ∧ AV.plainL l2 ∧ AV.plainL rs ∧ AV.plainL (kept (atL ls (Int.ofNat i))) ∧ AV.plainL (kept (atL l2 (Int.ofNat i))) ∧ AV.plainL ls ∧ AV.plainL l2 ∧ AV.plainL rs ∧ AV.plainL (kept (atL ls (Int.ofNat i))) ∧ AV.plainL (kept (atL l2 (Int.ofNat i))) ∧ AV.plainL ls ∧ AV.plainL l2 ∧ (!bytesEq ((bytesOf (rowCut (kept (atL ls (Int.ofNat i))) 0 512)).getD []) ((bytesOf (rowCut (kept (atL l2 (Int.ofNat i))) 0 512)).getD [])) = false ∧ (al → (bytesOf (rowCut (kept (atL ls (Int.ofNat i))) 0 512)).isSome ∧ i.succ.ble 4 ∧ (0 + i * 1).succ.ble 4 ∧ (0 + i * 1).succ.ble rs.length ∧ (cA rs (0 + i * 1)).isStr ∧ (!bytesEq ((bytesOf (rowCut (kept (atL ls (Int.ofNat i))) 0 512)).getD []) (cA rs (0 + i * 1)).strOf) = false ∧ AV.plainL rs ∧ AV.plainL ls ∧ AV.plainL l2 ∧ E .normal ([.bool al, .ptr (some (0, 0)), .ptr (some (1, 0)), .slice none 0 (some 0), .slice (some (2, 0)) 4 (some 4), .int .i64 (wrapA .i64 ((Int.ofNat i).add (Int.ofNat 1)))]) ([.cells true 145 4 [.slice (some (3, 0)) 4 cc, .slice none 0 (some 0), .bool false, .ptr none], .cells true 145 4 [.slice (some (4, 0)) 4 none, .slice none 0 (some 0), .bool false, .ptr none], .cells true 9 4 rs, .cells true 151 8 ls, .cells true 151 8 l2])) ∧ (al = false → AV.plainL rs ∧ AV.plainL ls ∧ AV.plainL l2 ∧ E .normal ([.bool al, .ptr (some (0, 0)), .ptr (some (1, 0)), .slice none 0 (some 0), .slice (some (2, 0)) 4 (some 4), .int .i64 (wrapA .i64 ((Int.ofNat i).add (Int.ofNat 1)))]) ([.cells true 145 4 [.slice (some (3, 0)) 4 cc, .slice none 0 (some 0), .bool false, .ptr none], .cells true 145 4 [.slice (some (4, 0)) 4 none, .slice none 0 (some 0), .bool false, .ptr none], .cells true 9 4 rs, .cells true 151 8 ls, .cells true 151 8 l2]))) ∧ (iltB (Int.ofNat i) (Int.ofNat 4) = false → AV.plainL rs ∧ AV.plainL ls ∧ AV.plainL l2 ∧ E (.exit 6) ([.bool al, .ptr (some (0, 0)), .ptr (some (1, 0)), .slice none 0 (some 0), .slice (some (2, 0)) 4 (some 4), .int .i64 (Int.ofNat i)]) ([.cells true 145 4 [.slice (some (3, 0)) 4 cc, .slice none 0 (some 0), .bool false, .ptr none], .cells true 145 4 [.slice (some (4, 0)) 4 none, .slice none 0 (some 0), .bool false, .ptr none], .cells true 9 4 rs, .cells true 151 8 ls, .cells true 151 8 l2]))) :
    ∃ q, roundS tys fns KM17 40 4 40 shL (roundOf (blockOf Try.f4 6)) 5 ([.bool al, .ptr (some (0, 0)), .ptr (some (1, 0)), .slice none 0 (some 0), .slice (some (2, 0)) 4 (some 4), .int .i64 (Int.ofNat i)], [.cells true 145 4 [.slice (some (3, 0)) 4 cc, .slice none 0 (some 0), .bool false, .ptr none], .cells true 145 4 [.slice (some (4, 0)) 4 none, .slice none 0 (some 0), .bool false, .ptr none], .cells true 9 4 rs, .cells true 151 8 ls, .cells true 151 8 l2]) q (fun x _ => E x.1 x.2.1 x.2.2) := wp_of (qN [4, 2, 5, 1, 1, 12, 0, 7, 0, 0, 0, 9, 0, 4, 0, 5, 1, 1, 12, 0, 7, 0, 0, 0, 9, 0, 4, 0, 4, 0, 4, 0, 29, 0, 4, 0, 4, 0, 4, 0, 4, 0, 13, 0, 4, 0, 4, 0, 4, 0, 4, 0, 14, 0, 4, 0, 4, 0, 4, 0, 4, 0, 13, 1, 6, 2, 7, 0, 10, 0, 5, 0, 0, 0, 9, 1, 15, 0, 4, 0, 4, 0, 3, 33, 0, 4, 0, 4, 0, 3, 15, 0, 4, 0, 4, 0, 3]) (by kernel_rfl) h
theorem shK_w (cc : Option Nat) (al : Bool) (rs : List AV) (ls : List AV) (l2 : List AV) (k : Nat) (js : List AV) (i : Nat) (E : AX → List AV → List Blk → Prop) (h :
    (iltB (Int.ofNat i) (Int.ofNat 4) → ileB (Int.ofNat 4) (Int.ofNat i) = false ∧ lostL ls (Int.ofNat i) = false ∧ AV.plainL ls ∧ AV.plainL ls ∧ isL ls ∧ ls.length.beq 8 ∧ AV.plainL ls ∧ AV.plainL (kept (atL ls (Int.ofNat i))) ∧ ileB (Int.ofNat 4) (Int.ofNat i) = false ∧ lostL l2 (Int.ofNat i) = false ∧ AV.plainL l2 ∧ AV.plainL l2 ∧ isL l2 ∧ l2.length.beq 8 ∧ AV.plainL l2 ∧ AV.plainL (kept (atL l2 (Int.ofNat i))) ∧ (bytesOf (rowCut (kept (atL ls (Int.ofNat i))) 0 512)).isSome ∧ (bytesOf (rowCut (kept (atL l2 (Int.ofNat i))) 0 512)).isSome ∧ Sc (blockOf Try.f4 8) ∧ AV.plainL js ∧ AV.plainL rs ∧ AV.plainL (kept (atL ls (Int.ofNat i))) ∧ AV.plainL (kept (atL l2 (Int.ofNat i))) ∧ AV.plainL ls ∧ AV.plainL l2 ∧ AV.plainL js ∧ AV.plainL rs ∧ AV.plainL (kept (atL ls (Int.ofNat i))) ∧ AV.plainL (kept (atL l2 (Int.ofNat i))) ∧ AV.plainL ls ∧ AV.plainL l2 ∧ isW 4096 js ∧ js.length.beq (k * 2) ∧ u8L (kept (atL ls (Int.ofNat i))) ∧ (kept (atL ls (Int.ofNat i))).length.beq 512 ∧ k.beq k ∧ (k * 2).beq (k * 2) ∧ k.beq k ∧ k.ble 100000 ∧ AV.plainL js ∧ AV.plainL rs ∧ AV.plainL (kept (atL ls (Int.ofNat i))) ∧ AV.plainL (kept (atL l2 (Int.ofNat i))) ∧ AV.plainL ls ∧ AV.plainL l2 ∧ (!kept (inW js (Int.ofNat i) (kept (atL ls (Int.ofNat i))) (bytesEq ((bytesOf (rowCut (kept (atL ls (Int.ofNat i))) 0 512)).getD []) ((bytesOf (rowCut (kept (atL l2 (Int.ofNat i))) 0 512)).getD [])))) = false ∧ (al → (bytesOf (rowCut (kept (atL ls (Int.ofNat i))) 0 512)).isSome ∧ i.succ.ble 4 ∧ (0 + i * 1).succ.ble 4 ∧ (0 + i * 1).succ.ble rs.length ∧ (cA rs (0 + i * 1)).isStr ∧ (!bytesEq ((bytesOf (rowCut (kept (atL ls (Int.ofNat i))) 0 512)).getD []) (cA rs (0 + i * 1)).strOf) = false ∧ AV.plainL js ∧ AV.plainL rs ∧ AV.plainL ls ∧ AV.plainL l2 ∧ E .normal ([.bool al, .ptr (some (0, 0)), .ptr (some (1, 0)), .slice (some (2, 0)) k none, .slice (some (3, 0)) 4 (some 4), .int .i64 (wrapA .i64 ((Int.ofNat i).add (Int.ofNat 1)))]) ([.cells true 145 4 [.slice (some (4, 0)) 4 cc, .slice none 0 (some 0), .bool false, .ptr none], .cells true 145 4 [.slice (some (5, 0)) 4 none, .slice none 0 (some 0), .bool false, .ptr none], .cells true 48 (k * 2) js, .cells true 9 4 rs, .cells true 151 8 ls, .cells true 151 8 l2])) ∧ (al = false → AV.plainL js ∧ AV.plainL rs ∧ AV.plainL ls ∧ AV.plainL l2 ∧ E .normal ([.bool al, .ptr (some (0, 0)), .ptr (some (1, 0)), .slice (some (2, 0)) k none, .slice (some (3, 0)) 4 (some 4), .int .i64 (wrapA .i64 ((Int.ofNat i).add (Int.ofNat 1)))]) ([.cells true 145 4 [.slice (some (4, 0)) 4 cc, .slice none 0 (some 0), .bool false, .ptr none], .cells true 145 4 [.slice (some (5, 0)) 4 none, .slice none 0 (some 0), .bool false, .ptr none], .cells true 48 (k * 2) js, .cells true 9 4 rs, .cells true 151 8 ls, .cells true 151 8 l2]))) ∧ (iltB (Int.ofNat i) (Int.ofNat 4) = false → AV.plainL js ∧ AV.plainL rs ∧ AV.plainL ls ∧ AV.plainL l2 ∧ E (.exit 6) ([.bool al, .ptr (some (0, 0)), .ptr (some (1, 0)), .slice (some (2, 0)) k none, .slice (some (3, 0)) 4 (some 4), .int .i64 (Int.ofNat i)]) ([.cells true 145 4 [.slice (some (4, 0)) 4 cc, .slice none 0 (some 0), .bool false, .ptr none], .cells true 145 4 [.slice (some (5, 0)) 4 none, .slice none 0 (some 0), .bool false, .ptr none], .cells true 48 (k * 2) js, .cells true 9 4 rs, .cells true 151 8 ls, .cells true 151 8 l2]))) :
    ∃ q, roundS tys fns KM17 40 4 40 shL (roundOf (blockOf Try.f4 6)) 6 ([.bool al, .ptr (some (0, 0)), .ptr (some (1, 0)), .slice (some (2, 0)) k none, .slice (some (3, 0)) 4 (some 4), .int .i64 (Int.ofNat i)], [.cells true 145 4 [.slice (some (4, 0)) 4 cc, .slice none 0 (some 0), .bool false, .ptr none], .cells true 145 4 [.slice (some (5, 0)) 4 none, .slice none 0 (some 0), .bool false, .ptr none], .cells true 48 (k * 2) js, .cells true 9 4 rs, .cells true 151 8 ls, .cells true 151 8 l2]) q (fun x _ => E x.1 x.2.1 x.2.2) := wp_of (qN [4, 2, 5, 1, 1, 12, 0, 7, 0, 0, 0, 9, 0, 4, 0, 5, 1, 1, 12, 0, 7, 0, 0, 0, 9, 0, 4, 0, 4, 0, 4, 0, 33, 0, 4, 0, 4, 0, 4, 0, 4, 0, 4, 0, 15, 0, 4, 0, 4, 0, 4, 0, 4, 0, 4, 0, 0, 0, 0, 0, 0, 0, 0, 4, 0, 16, 0, 4, 0, 4, 0, 4, 0, 4, 0, 4, 0, 13, 1, 6, 2, 7, 0, 10, 0, 5, 0, 0, 0, 9, 1, 16, 0, 4, 0, 4, 0, 4, 0, 3, 34, 0, 4, 0, 4, 0, 4, 0, 3, 16, 0, 4, 0, 4, 0, 4, 0, 3]) (by kernel_rfl) h
theorem shN_ok : ZLoop.OK Try.prog (tyCx tys) (flOf tys) 6 { shL with m := shNM } := by
  refine ZLoop.wp (cxZ cx_goes) allM17 4 40 40 (b := roundOf (blockOf Try.f4 6)) (by kernel_rfl) (by kernel_rfl) (α := Option Nat × Bool × List AV × List AV × List AV × Nat)
    (fun (cc, al, rs, ls, l2, i) => ([.bool al, .ptr (some (0, 0)), .ptr (some (1, 0)), .slice none 0 (some 0), .slice (some (2, 0)) 4 (some 4), .int .i64 (Int.ofNat i)], [.cells true 145 4 [.slice (some (3, 0)) 4 cc, .slice none 0 (some 0), .bool false, .ptr none], .cells true 145 4 [.slice (some (4, 0)) 4 none, .slice none 0 (some 0), .bool false, .ptr none], .cells true 9 4 rs, .cells true 151 8 ls, .cells true 151 8 l2])) (fun (cc, al, rs, ls, l2, i) => showB al ls l2 [] rs = true ∧ isL ls = true ∧ isL l2 = true ∧ ls.length = 8 ∧ l2.length = 8 ∧ rs.length = 4 ∧ AV.plainL rs = true ∧ AV.plainL ls = true ∧ AV.plainL l2 = true ∧ i ≤ 4) (fun _ => 5) (fun (cc, al, rs, ls, l2, i) => 4 - i)
    (fun (cc, al, rs, ls, l2, i) => (.exit 6, [.bool al, .ptr (some (0, 0)), .ptr (some (1, 0)), .slice none 0 (some 0), .slice (some (2, 0)) 4 (some 4), .int .i64 (Int.ofNat 4)], [.cells true 145 4 [.slice (some (3, 0)) 4 cc, .slice none 0 (some 0), .bool false, .ptr none], .cells true 145 4 [.slice (some (4, 0)) 4 none, .slice none 0 (some 0), .bool false, .ptr none], .cells true 9 4 rs, .cells true 151 8 ls, .cells true 151 8 l2])) ?_ ?_
  · intro vs bs conds X vs' bs' h hc hin
    simp only [shNM] at h
    split at h
    · rename_i al i cc rs ls l2
      obtain ⟨rfl, rfl, rfl, rfl⟩ := some5 h
      simp only [allTrue_cons, nbeq_iff, nble_iff] at hc
      obtain ⟨c0, c1, c2, c3, c4, c5, rfl, _⟩ := hc
      exact ⟨(cc, al, rs, ls, l2, 0), ⟨c0, c1, c2, c3, c4, c5, zin_plain hin 2 rfl (by kernel_rfl), zin_plain hin 3 rfl (by kernel_rfl), zin_plain hin 4 rfl (by kernel_rfl), Nat.zero_le _⟩, rfl, rfl, rfl, rfl⟩
    · cases h
  · rintro ⟨cc, al, rs, ls, l2, i⟩ ⟨c0, c1, c2, c3, c4, c5, p1, p2, p3, hi⟩
    refine shN_w cc al rs ls l2 i _ ⟨fun h => ?_, fun h => ?_⟩
    · have h : i < 4 := lt_nat h
      obtain ⟨s1, s2, s3, s4, s5⟩ := showB_at c0 h
      have lL := atL_len (i := Int.ofNat i) c1
      have eL := atL_bytes ls (Int.ofNat i)
      have rL : rowCut (atL ls (Int.ofNat i)) 0 512 = atL ls (Int.ofNat i) := rowCut_id _ _ (by rw [eL, ofBytes_length]; exact lL)
      have bL : bytesOf (atL ls (Int.ofNat i)) = some (bytesL (atL ls (Int.ofNat i))) := by rw [eL, bytesOf_ofBytes, bytesL_ofBytes]
      have lM := atL_len (i := Int.ofNat i) c2
      have eM := atL_bytes l2 (Int.ofNat i)
      have rM : rowCut (atL l2 (Int.ofNat i)) 0 512 = atL l2 (Int.ofNat i) := rowCut_id _ _ (by rw [eM, ofBytes_length]; exact lM)
      have bM : bytesOf (atL l2 (Int.ofNat i)) = some (bytesL (atL l2 (Int.ofNat i))) := by rw [eM, bytesOf_ofBytes, bytesL_ofBytes]
      have nL : (atL ls (Int.ofNat i)).length = 512 := by rw [eL, ofBytes_length]; exact lL
      have h4 : ileB (Int.ofNat 4) (Int.ofNat i) = false := by rw [ileB_eq]; exact decide_eq_false (by show ¬ (4 : Int) ≤ (i : Int); omega)
      rw [inW_nil] at s3
      simp only [kept_eq, rL, bL, rM, bM, Option.getD_some, Nat.zero_add, Nat.mul_one, s3, wrap_inc (show i < 9223372036854775807 by omega)]
      and_intros
      all_goals with_reducible first
        | assumption
        | exact atL_plain _ _
        | exact u8L_atL _ _
        | exact Sc_i _
        | exact Option.isSome_some
        | exact nbeq_iff.2 rfl
        | exact nbeq_iff.2 (by assumption)
        | exact nble_iff.2 (by omega)
        | rfl
        | exact Bool.not_true
        | skip
      · intro ha
        simp only [s5 ha]
        and_intros
        all_goals with_reducible first
          | assumption
          | exact Option.isSome_some
          | exact nble_iff.2 (by omega)
          | rfl
          | exact Bool.not_true
          | skip
        exact Stp.go (cc, al, rs, ls, l2, i + 1) ⟨c0, c1, c2, c3, c4, c5, p1, p2, p3, h⟩ (by simp only; omega) rfl
      · intro ha
        and_intros
        all_goals with_reducible first
          | assumption
          | skip
        exact Stp.go (cc, al, rs, ls, l2, i + 1) ⟨c0, c1, c2, c3, c4, c5, p1, p2, p3, h⟩ (by simp only; omega) rfl
    · have h : 4 ≤ i := ge_nat h
      have hi : i = 4 := by omega
      subst hi
      and_intros
      all_goals with_reducible first
        | assumption
        | skip
      exact Stp.fin rfl
theorem shK_ok : ZLoop.OK Try.prog (tyCx tys) (flOf tys) 6 { shL with m := shKM } := by
  refine ZLoop.wp (cxZ cx_goes) allM17 4 40 40 (b := roundOf (blockOf Try.f4 6)) (by kernel_rfl) (by kernel_rfl) (α := Option Nat × Bool × List AV × List AV × List AV × Nat × List AV × Nat)
    (fun (cc, al, rs, ls, l2, k, js, i) => ([.bool al, .ptr (some (0, 0)), .ptr (some (1, 0)), .slice (some (2, 0)) k none, .slice (some (3, 0)) 4 (some 4), .int .i64 (Int.ofNat i)], [.cells true 145 4 [.slice (some (4, 0)) 4 cc, .slice none 0 (some 0), .bool false, .ptr none], .cells true 145 4 [.slice (some (5, 0)) 4 none, .slice none 0 (some 0), .bool false, .ptr none], .cells true 48 (k * 2) js, .cells true 9 4 rs, .cells true 151 8 ls, .cells true 151 8 l2])) (fun (cc, al, rs, ls, l2, k, js, i) => showB al ls l2 js rs = true ∧ isL ls = true ∧ isL l2 = true ∧ ls.length = 8 ∧ l2.length = 8 ∧ rs.length = 4 ∧ AV.plainL rs = true ∧ AV.plainL ls = true ∧ AV.plainL l2 = true ∧ isW 4096 js = true ∧ js.length = k * 2 ∧ k ≤ 100000 ∧ AV.plainL js = true ∧ i ≤ 4) (fun _ => 6) (fun (cc, al, rs, ls, l2, k, js, i) => 4 - i)
    (fun (cc, al, rs, ls, l2, k, js, i) => (.exit 6, [.bool al, .ptr (some (0, 0)), .ptr (some (1, 0)), .slice (some (2, 0)) k none, .slice (some (3, 0)) 4 (some 4), .int .i64 (Int.ofNat 4)], [.cells true 145 4 [.slice (some (4, 0)) 4 cc, .slice none 0 (some 0), .bool false, .ptr none], .cells true 145 4 [.slice (some (5, 0)) 4 none, .slice none 0 (some 0), .bool false, .ptr none], .cells true 48 (k * 2) js, .cells true 9 4 rs, .cells true 151 8 ls, .cells true 151 8 l2])) ?_ ?_
  · intro vs bs conds X vs' bs' h hc hin
    simp only [shKM] at h
    split at h
    · rename_i al k i cc a js rs ls l2
      obtain ⟨rfl, rfl, rfl, rfl⟩ := some5 h
      simp only [allTrue_cons, nbeq_iff, nble_iff] at hc
      obtain ⟨c0, c1, c2, c3, c4, c5, rfl, c6, c7, rfl, c8, _⟩ := hc
      exact ⟨(cc, al, rs, ls, l2, k, js, 0), ⟨c0, c1, c2, c3, c4, c5, zin_plain hin 3 rfl (by kernel_rfl), zin_plain hin 4 rfl (by kernel_rfl), zin_plain hin 5 rfl (by kernel_rfl), c6, c7, c8, zin_plain hin 2 rfl (by kernel_rfl), Nat.zero_le _⟩, rfl, rfl, rfl, rfl⟩
    · cases h
  · rintro ⟨cc, al, rs, ls, l2, k, js, i⟩ ⟨c0, c1, c2, c3, c4, c5, p1, p2, p3, c6, c7, c8, p4, hi⟩
    refine shK_w cc al rs ls l2 k js i _ ⟨fun h => ?_, fun h => ?_⟩
    · have h : i < 4 := lt_nat h
      obtain ⟨s1, s2, s3, s4, s5⟩ := showB_at c0 h
      have lL := atL_len (i := Int.ofNat i) c1
      have eL := atL_bytes ls (Int.ofNat i)
      have rL : rowCut (atL ls (Int.ofNat i)) 0 512 = atL ls (Int.ofNat i) := rowCut_id _ _ (by rw [eL, ofBytes_length]; exact lL)
      have bL : bytesOf (atL ls (Int.ofNat i)) = some (bytesL (atL ls (Int.ofNat i))) := by rw [eL, bytesOf_ofBytes, bytesL_ofBytes]
      have lM := atL_len (i := Int.ofNat i) c2
      have eM := atL_bytes l2 (Int.ofNat i)
      have rM : rowCut (atL l2 (Int.ofNat i)) 0 512 = atL l2 (Int.ofNat i) := rowCut_id _ _ (by rw [eM, ofBytes_length]; exact lM)
      have bM : bytesOf (atL l2 (Int.ofNat i)) = some (bytesL (atL l2 (Int.ofNat i))) := by rw [eM, bytesOf_ofBytes, bytesL_ofBytes]
      have nL : (atL ls (Int.ofNat i)).length = 512 := by rw [eL, ofBytes_length]; exact lL
      have h4 : ileB (Int.ofNat 4) (Int.ofNat i) = false := by rw [ileB_eq]; exact decide_eq_false (by show ¬ (4 : Int) ≤ (i : Int); omega)
      simp only [kept_eq, rL, bL, rM, bM, Option.getD_some, Nat.zero_add, Nat.mul_one, s3, wrap_inc (show i < 9223372036854775807 by omega)]
      and_intros
      all_goals with_reducible first
        | assumption
        | exact atL_plain _ _
        | exact u8L_atL _ _
        | exact Sc_i _
        | exact Option.isSome_some
        | exact nbeq_iff.2 rfl
        | exact nbeq_iff.2 (by assumption)
        | exact nble_iff.2 (by omega)
        | rfl
        | exact Bool.not_true
        | skip
      · intro ha
        simp only [s5 ha]
        and_intros
        all_goals with_reducible first
          | assumption
          | exact Option.isSome_some
          | exact nble_iff.2 (by omega)
          | rfl
          | exact Bool.not_true
          | skip
        exact Stp.go (cc, al, rs, ls, l2, k, js, i + 1) ⟨c0, c1, c2, c3, c4, c5, p1, p2, p3, c6, c7, c8, p4, h⟩ (by simp only; omega) rfl
      · intro ha
        and_intros
        all_goals with_reducible first
          | assumption
          | skip
        exact Stp.go (cc, al, rs, ls, l2, k, js, i + 1) ⟨c0, c1, c2, c3, c4, c5, p1, p2, p3, c6, c7, c8, p4, h⟩ (by simp only; omega) rfl
    · have h : 4 ≤ i := ge_nat h
      have hi : i = 4 := by omega
      subst hi
      and_intros
      all_goals with_reducible first
        | assumption
        | skip
      exact Stp.fin rfl
theorem shL_ok : shL.OK Try.prog (tyCx tys) (flOf tys) 6 := ZLoop.or (m1 := shNM) (m2 := shKM) rfl shN_ok shK_ok
def KM18 : Known := { KM14 with l := [((4, 0), acL), ((4, 2), kpL), ((4, 4), laL), ((4, 6), shL)] }
theorem KM18_ok : KOK Try.prog tys KM18 := ⟨KM14_ok.t, KM14_ok.f, KM14_ok.z, ⟨acL_ok, kpL_ok, laL_ok, shL_ok, trivial⟩⟩
end Go.Proofs.Ytlmgdpaajongbaa
end
end

section
noncomputable section
namespace Go.Proofs.Ytlmgdpaajongbaa
open Go.Ab.M Go.Ab Go
theorem li_w (E : AV → Prop) (h :
    AV.plainL (kept (ofBytes (secB (Int.ofNat 7) 512))) ∧ AV.plainL (kept (ofBytes (secB (Int.ofNat 7) 512))) ∧ u8L (kept (ofBytes (secB (Int.ofNat 7) 512))) ∧ (kept (ofBytes (secB (Int.ofNat 7) 512))).length.beq 512 ∧ AV.plainL (kept (ofBytes (secB (Int.ofNat 7) 512))) ∧ AV.plainL (kept (pushW [] (Int.ofNat 0) (kept (ofBytes (secB (Int.ofNat 7) 512))))) ∧ AV.plainL (kept (pushW [] (Int.ofNat 0) (kept (ofBytes (secB (Int.ofNat 7) 512))))) ∧ AV.plainL (kept (pushW [] (Int.ofNat 0) (kept (ofBytes (secB (Int.ofNat 7) 512))))) ∧ isW 4096 (kept (pushW [] (Int.ofNat 0) (kept (ofBytes (secB (Int.ofNat 7) 512))))) ∧ (kept (pushW [] (Int.ofNat 0) (kept (ofBytes (secB (Int.ofNat 7) 512))))).length.beq 2 ∧ AV.plainL (kept (pushW [] (Int.ofNat 0) (kept (ofBytes (secB (Int.ofNat 7) 512))))) ∧ isL [.fsl true 0 [], .bool false, .fsl true 0 [], .bool false] ∧ AV.plainL (kept (atL [.fsl true 0 [], .bool false, .fsl true 0 [], .bool false] (Int.ofNat 0))) ∧ AV.plainL (kept (ofBytes (secB (Int.ofNat 7) 512))) ∧ AV.plainL (kept (ofBytes (secB (Int.ofNat 7) 512))) ∧ u8L (kept (ofBytes (secB (Int.ofNat 7) 512))) ∧ (kept (ofBytes (secB (Int.ofNat 7) 512))).length.beq 512 ∧ AV.plainL (kept (ofBytes (secB (Int.ofNat 7) 512))) ∧ AV.plainL (kept (pushW [] (Int.ofNat 0) (kept (ofBytes (secB (Int.ofNat 7) 512))))) ∧ AV.plainL (kept (pushW [] (Int.ofNat 0) (kept (ofBytes (secB (Int.ofNat 7) 512))))) ∧ AV.plainL (kept (pushW [] (Int.ofNat 0) (kept (ofBytes (secB (Int.ofNat 7) 512))))) ∧ isL [.fsl true 0 [], .bool false, .fsl true 0 [], .bool false] ∧ isW 2 (kept (pushW [] (Int.ofNat 0) (kept (ofBytes (secB (Int.ofNat 7) 512))))) ∧ (kept (pushW [] (Int.ofNat 0) (kept (ofBytes (secB (Int.ofNat 7) 512))))).length.beq 2 ∧ AV.plainL (kept (crashL [.fsl true 0 [], .bool false, .fsl true 0 [], .bool false] (kept (pushW [] (Int.ofNat 0) (kept (ofBytes (secB (Int.ofNat 7) 512))))) [.bool true])) ∧ AV.plainL (kept (pushW [] (Int.ofNat 0) (kept (ofBytes (secB (Int.ofNat 7) 512))))) ∧ lostL (kept (crashL [.fsl true 0 [], .bool false, .fsl true 0 [], .bool false] (kept (pushW [] (Int.ofNat 0) (kept (ofBytes (secB (Int.ofNat 7) 512))))) [.bool true])) (Int.ofNat 0) = false ∧ AV.plainL (kept (crashL [.fsl true 0 [], .bool false, .fsl true 0 [], .bool false] (kept (pushW [] (Int.ofNat 0) (kept (ofBytes (secB (Int.ofNat 7) 512))))) [.bool true])) ∧ AV.plainL (kept (crashL [.fsl true 0 [], .bool false, .fsl true 0 [], .bool false] (kept (pushW [] (Int.ofNat 0) (kept (ofBytes (secB (Int.ofNat 7) 512))))) [.bool true])) ∧ isL (kept (crashL [.fsl true 0 [], .bool false, .fsl true 0 [], .bool false] (kept (pushW [] (Int.ofNat 0) (kept (ofBytes (secB (Int.ofNat 7) 512))))) [.bool true])) ∧ (kept (crashL [.fsl true 0 [], .bool false, .fsl true 0 [], .bool false] (kept (pushW [] (Int.ofNat 0) (kept (ofBytes (secB (Int.ofNat 7) 512))))) [.bool true])).length.beq 4 ∧ AV.plainL (kept (crashL [.fsl true 0 [], .bool false, .fsl true 0 [], .bool false] (kept (pushW [] (Int.ofNat 0) (kept (ofBytes (secB (Int.ofNat 7) 512))))) [.bool true])) ∧ AV.plainL (kept (atL (kept (crashL [.fsl true 0 [], .bool false, .fsl true 0 [], .bool false] (kept (pushW [] (Int.ofNat 0) (kept (ofBytes (secB (Int.ofNat 7) 512))))) [.bool true])) (Int.ofNat 0))) ∧ (bytesOf (rowCut (kept (atL [.fsl true 0 [], .bool false, .fsl true 0 [], .bool false] (Int.ofNat 0))) 0 512)).isSome ∧ bytesEq ((bytesOf (rowCut (kept (atL [.fsl true 0 [], .bool false, .fsl true 0 [], .bool false] (Int.ofNat 0))) 0 512)).getD []) (List.replicate 512 (UInt8.ofNat 0)) ∧ (bytesOf (rowCut (kept (atL (kept (crashL [.fsl true 0 [], .bool false, .fsl true 0 [], .bool false] (kept (pushW [] (Int.ofNat 0) (kept (ofBytes (secB (Int.ofNat 7) 512))))) [.bool true])) (Int.ofNat 0))) 0 512)).isSome ∧ (bytesOf (rowCut (kept (ofBytes (secB (Int.ofNat 7) 512))) 0 512)).isSome ∧ (bytesOf (rowCut (kept (atL [.fsl true 0 [], .bool false, .fsl true 0 [], .bool false] (Int.ofNat 0))) 0 512)).isSome ∧ Sm (AV.str ((bytesOf (rowCut (kept (atL [.fsl true 0 [], .bool false, .fsl true 0 [], .bool false] (Int.ofNat 0))) 0 512)).getD [])) ∧ (bytesOf (rowCut (kept (atL (kept (crashL [.fsl true 0 [], .bool false, .fsl true 0 [], .bool false] (kept (pushW [] (Int.ofNat 0) (kept (ofBytes (secB (Int.ofNat 7) 512))))) [.bool true])) (Int.ofNat 0))) 0 512)).isSome ∧ Sm (AV.str ((bytesOf (rowCut (kept (atL (kept (crashL [.fsl true 0 [], .bool false, .fsl true 0 [], .bool false] (kept (pushW [] (Int.ofNat 0) (kept (ofBytes (secB (Int.ofNat 7) 512))))) [.bool true])) (Int.ofNat 0))) 0 512)).getD [])) ∧ (bytesOf (rowCut (kept (atL (kept (crashL [.fsl true 0 [], .bool false, .fsl true 0 [], .bool false] (kept (pushW [] (Int.ofNat 0) (kept (ofBytes (secB (Int.ofNat 7) 512))))) [.bool true])) (Int.ofNat 0))) 0 512)).isSome ∧ Sm (AV.str ((bytesOf (rowCut (kept (atL (kept (crashL [.fsl true 0 [], .bool false, .fsl true 0 [], .bool false] (kept (pushW [] (Int.ofNat 0) (kept (ofBytes (secB (Int.ofNat 7) 512))))) [.bool true])) (Int.ofNat 0))) 0 512)).getD [])) ∧ (bytesOf (rowCut (kept (ofBytes (secB (Int.ofNat 7) 512))) 0 512)).isSome ∧ Sm (AV.str ((bytesOf (rowCut (kept (ofBytes (secB (Int.ofNat 7) 512))) 0 512)).getD [])) ∧ E (AV.bool (bytesEq ((bytesOf (rowCut (kept (atL (kept (crashL [.fsl true 0 [], .bool false, .fsl true 0 [], .bool false] (kept (pushW [] (Int.ofNat 0) (kept (ofBytes (secB (Int.ofNat 7) 512))))) [.bool true])) (Int.ofNat 0))) 0 512)).getD []) ((bytesOf (rowCut (kept (ofBytes (secB (Int.ofNat 7) 512))) 0 512)).getD [])))) :
    ∃ q, fcallS tys fns KM14 60 14 [] q (fun x _ => E x) := wp_of (qN [34, 0, 10, 0, 6, 0, 0, 8, 0, 6, 0, 17, 0, 10, 0, 0, 0, 11, 0, 22, 0, 12, 0, 20, 0, 10, 0, 6, 0, 0, 8, 0, 6, 0, 25, 0, 13, 0, 0, 0, 4, 0, 15, 0, 4, 0, 6, 1, 12, 0, 7, 0, 0, 0, 9, 0, 4, 0, 28, 0, 16, 0, 7, 0, 9, 0, 17, 0, 0, 18, 0, 0, 4, 0, 0, 6, 0, 0, 4, 3]) (by kernel_rfl) h
def liR : FRowM := fun us => match us with
  | [] => .leaf ([], .bool true)
  | _ => .no
theorem bEq_self (b : List UInt8) : bytesEq b b = true := by rw [bytesEq_eq]; exact beq_self_eq_true b
theorem liP (b : List UInt8) : pushW [] (Int.ofNat 0) (ofBytes b) = encW [(Int.ofNat 0, b)] := by unfold pushW; rw [bytesL_ofBytes]; rfl
theorem li0 : [AV.fsl true 0 [], .bool false, .fsl true 0 [], .bool false] = encL [(none, false), (none, false)] := rfl
theorem liC (b : List UInt8) : crashL (encL [(none, false), (none, false)]) (encW [(Int.ofNat 0, b)]) [.bool true] = encL [(some b, false), (none, false)] := by
  unfold crashL; rw [decW_encW, decL_encL]; rfl
theorem li_ok : FSum.Sound Try.prog tys 14 liR := by
  refine FSum.wp (cxZ cx_goes) allM14 60 fun us c v hm hc => ?_
  unfold liR at hm
  split at hm
  · obtain ⟨rfl, rfl⟩ := some3 hm
    refine li_w _ ?_
    have hb : (secB (Int.ofNat 7) 512).length = 512 := secB_len _ _
    generalize secB (Int.ofNat 7) 512 = b at *
    have hw4 : isW 4096 (encW [(Int.ofNat 0, b)]) = true := isW_enc fun x hx => by
      cases List.mem_singleton.1 hx; exact ⟨Int.le_refl _, (by show (0 : Int) < _; decide), hb⟩
    have hw2 : isW 2 (encW [(Int.ofNat 0, b)]) = true := isW_enc fun x hx => by
      cases List.mem_singleton.1 hx; exact ⟨Int.le_refl _, (by show (0 : Int) < _; decide), hb⟩
    have hl0 : isL (encL [(none, false), (none, false)]) = true := isL_enc fun x hx c hc => by
      rcases List.mem_cons.1 hx with rfl | hx
      · cases hc
      · cases List.mem_singleton.1 hx; cases hc
    have hl1 : isL (encL [(some b, false), (none, false)]) = true := isL_enc fun x hx c hc => by
      rcases List.mem_cons.1 hx with rfl | hx
      · cases hc; exact hb
      · cases List.mem_singleton.1 hx; cases hc
    have hlo : lostL (encL [(some b, false), (none, false)]) (Int.ofNat 0) = false := lost_eq (by show 0 < 2; decide)
    have ha0 : atL (encL [(none, false), (none, false)]) (Int.ofNat 0) = ofBytes (List.replicate 512 (UInt8.ofNat 0)) := atL_none (by decide) rfl
    have ha1 : atL (encL [(some b, false), (none, false)]) (Int.ofNat 0) = ofBytes b := atL_some (by show 0 < 2; decide) rfl
    have h0 : (List.replicate 512 (UInt8.ofNat 0)).length = 512 := List.length_replicate
    generalize List.replicate 512 (UInt8.ofNat 0) = z at *
    rw [li0]
    simp only [kept_eq, liP, liC, ha0, ha1]
    rw [rowCut_id _ _ ((ofBytes_length z).trans h0), rowCut_id _ _ ((ofBytes_length b).trans hb)]
    simp only [bytesOf_ofBytes, Option.getD_some]
    have b2 := @nbeq_iff
    and_intros
    all_goals with_reducible first
      | assumption
      | exact ofBytes_plainM _
      | exact encW_plain _
      | exact encL_plain _
      | exact u8L_ofBytes _
      | exact Sm_i _
      | exact b2.2 ((ofBytes_length b).trans hb)
      | exact b2.2 (encW_length _)
      | exact b2.2 (encL_length _)
      | exact bEq_self _
      | rfl
      | skip
    all_goals first | rfl | (rw [bEq_self]; rfl)
  · cases hm
def KM19 : Known := { KM18 with f := [(82, cloneR), (15, fewR), (14, liR)] }
theorem KM19_ok : KOK Try.prog tys KM19 := ⟨KM18_ok.t, ⟨cloneR_ok, fewR_ok, li_ok, trivial⟩, KM18_ok.z, KM18_ok.l⟩
theorem allM19 : SumAll Try.prog (mkCxZ tys fns KM19) := sums_allZ KM19_ok
end Go.Proofs.Ytlmgdpaajongbaa
end
end

section
noncomputable section
namespace Go.Ab
open M Go.Proofs.Ytlmgdpaajongbaa
def lcallS (ty : TypeId → Option ATy) (fn : FuncId → Option Func) (K : Known) (f : Nat) (g : FuncId) (us : List AV) : S AV :=
  S.bind (callS (mkCxZ ty fn K) (mkSZ ty K) f (.fn g) us H0) fun r => S.pure r.1
theorem law_wp {ty : TypeId → Option ATy} {fn : FuncId → Option Func} {K : Known} {f : Nat} {g : FuncId} {us : List AV} (h : ∃ q, lcallS ty fn K f g us q fun x _ => Is1 (.bool true) x) : ∃ h', aCall (mkCxZ ty fn K) f (.fn g) us H0 = some (.bool true, h') := by
  obtain ⟨q, h⟩ := h
  unfold lcallS at h
  obtain ⟨⟨v0, h'⟩, q', hrun, h1⟩ := callS_snd _ (mkSZ_ok ty fn K) f _ _ _ q _ h
  have e : v0 = .bool true := h1
  subst e
  exact ⟨h', hrun⟩
def noL (l : SL) : Prop := ∀ x ∈ l, x.2 = false
theorem setl_noL {l : SL} (h : noL l) (x : Int × List UInt8) : noL (setl l x) := by
  unfold setl
  intro y hy
  rcases List.mem_or_eq_of_mem_set hy with hy | rfl
  · exact h y hy
  · rfl
theorem fold_noL {β : Type} (f : SL → β → SL) (hf : ∀ l x, noL l → noL (f l x)) : ∀ (w : List β) (l : SL), noL l → noL (w.foldl f l)
  | [], l, h => h
  | x :: w, l, h => fold_noL f hf w (f l x) (hf l x h)
theorem flush_noL (w : WL) (l : SL) (h : noL l) : noL (w.foldl setl l) := fold_noL setl (fun l x h => setl_noL h x) w l h
theorem crF_noL (w : WL) (keep : List Bool) (l : SL) (h : noL l) : noL (crF w keep l) := fold_noL _ (fun l x h => by
  show noL (if keep.getD x.2 false then setl l x.1 else l)
  split
  · exact setl_noL h _
  · exact h) _ l h
theorem step_noL {s : SL × WL} (h : noL s.1) (a : MAct) : noL (stepA s a).1 := by
  unfold stepA
  split
  · split
    · exact h
    · exact h
  · split
    · exact flush_noL _ _ h
    · exact h
theorem acts_noL : ∀ (l : List MAct) {s : SL × WL}, noL s.1 → noL (l.foldl stepA s).1
  | [], _, h => h
  | a :: l, _, h => acts_noL l (step_noL h a)
theorem lost_no {l : SL} (h : noL l) (i : Nat) : lostL (encL l) (Int.ofNat i) = false := by
  unfold lostL; rw [decL_encL]
  show ((l[i]?.map (·.2)).getD false) = false
  cases e : l[i]? with
  | none => rfl
  | some x => exact h x (List.mem_of_getElem? e)
def datO (o : Option (Option (List UInt8) × Bool)) : List UInt8 := ((o.map (·.1)).getD none).getD (List.replicate 512 0)
theorem at_dat (l : SL) (i : Nat) : bytesL (atL (encL l) (Int.ofNat i)) = datO l[i]? := by
  unfold atL; rw [decL_encL, bytesL_ofBytes]; rfl
theorem setl_at (l : SL) (x : Int × List UInt8) (i : Nat) (h : i < l.length) : (setl l x)[i]? = if x.1.toNat = i then some (some x.2, false) else l[i]? := by
  unfold setl
  rw [List.getElem?_set]
  split
  · rename_i e; rw [if_pos (by rw [e]; exact h)]
  · rfl
theorem cr_at (keep : List Bool) (i : Nat) : ∀ (zs : List ((Int × List UInt8) × Nat)) (l : SL), i < l.length →
    (zs.foldl (fun (l : SL) (p : (Int × List UInt8) × Nat) => if keep.getD p.2 false then setl l p.1 else l) l)[i]? = l[i]? ∨ ∃ p ∈ zs, p.1.1.toNat = i ∧ (zs.foldl (fun (l : SL) (p : (Int × List UInt8) × Nat) => if keep.getD p.2 false then setl l p.1 else l) l)[i]? = some (some p.1.2, false)
  | [], l, h => .inl rfl
  | z :: zs, l, h => by
    rw [List.foldl_cons]
    have hl : i < (if keep.getD z.2 false then setl l z.1 else l).length := by
      split
      · rw [settle_len]; exact h
      · exact h
    rcases cr_at keep i zs _ hl with e | ⟨p, hp, e1, e2⟩
    · rw [e]
      split
      · rw [setl_at _ _ _ h]
        split
        · rename_i e3
          exact .inr ⟨z, List.mem_cons_self, e3, rfl⟩
        · exact .inl rfl
      · exact .inl rfl
    · exact .inr ⟨p, List.mem_cons_of_mem _ hp, e1, e2⟩
theorem inF_any (i : Int) (b : List UInt8) : ∀ (w : WL) (ii : Bool), inF w i b ii = (ii || w.any fun p => ieqB p.1 i && bytesEq p.2 b)
  | [], ii => (Bool.or_false ii).symm
  | p :: w, ii => by
    show inF w i b (ii || (ieqB p.1 i && bytesEq p.2 b)) = _
    rw [inF_any i b w, List.any_cons, Bool.or_assoc]
theorem cr_all (keep : List Bool) : ∀ (w : WL) (j : Nat) (l : SL), (∀ m, m < j + w.length → keep.getD m false = true) → (w.zipIdx j).foldl (fun (l : SL) (p : (Int × List UInt8) × Nat) => if keep.getD p.2 false then setl l p.1 else l) l = w.foldl setl l
  | [], j, l, h => rfl
  | x :: w, j, l, h => by
    rw [List.zipIdx_cons, List.foldl_cons, List.foldl_cons]
    have e : keep.getD j false = true := h j (by rw [List.length_cons]; omega)
    show ((w.zipIdx (j + 1)).foldl _ (if keep.getD j false then setl l x else l)) = _
    rw [if_pos e]
    exact cr_all keep w (j + 1) _ fun m hm => h m (by rw [List.length_cons]; omega)
def wAt (w : WL) (j : Nat) : List UInt8 := (w[j]?.map (·.2)).getD []
def lstO (w : WL) (o : Option Nat) (d : Option (Option (List UInt8) × Bool)) : Option (Option (List UInt8) × Bool) := match o with
  | some j => some (some (wAt w j), false)
  | none => d
theorem last_at {n : Nat} {w : WL} {l : SL} (hw : okW n w) {i : Nat} (h : i < l.length) : ∀ k, k ≤ w.length →
    ((w.take k).foldl setl l)[i]? = lstO w (lastI w (Int.ofNat i) k) l[i]?
  | 0, _ => rfl
  | k + 1, hk => by
    have hk' : k < w.length := hk
    rw [foldl_take _ _ _ _ hk', setl_at _ _ _ (by rw [flush_len]; exact h), last_at hw h k (by omega)]
    have h0 := (hw w[k] (List.getElem_mem hk')).1
    show _ = lstO w (if (w[k]?.map (·.1)) = some (Int.ofNat i) then some k else lastI w (Int.ofNat i) k) l[i]?
    have eq : w[k]? = some w[k] := List.getElem?_eq_getElem hk'
    by_cases e : w[k].1.toNat = i
    · have e2 : w[k].1 = Int.ofNat i := by show _ = (i : Int); omega
      rw [if_pos e, if_pos (by rw [eq, ← e2]; rfl)]
      show _ = some (some (wAt w k), false)
      unfold wAt
      rw [eq]; rfl
    · have e2 : ¬ ((w[k]?.map (·.1)) = some (Int.ofNat i)) := by
        rw [eq]
        intro e3
        have e4 : w[k].1 = Int.ofNat i := Option.some.inj e3
        exact e (by rw [e4]; rfl)
      rw [if_neg e, if_neg e2]
theorem cA_lastR (ls ks : List AV) {i : Nat} (h : i < 4) : cA (lastR ls ks) i = .str (stR false 4 ls ks (Int.ofNat i)) := by
  rcases i with _ | _ | _ | _ | i
  · rfl
  · rfl
  · rfl
  · rfl
  · omega
theorem ile_4 {i : Nat} (h : i < 4) : ileB (Int.ofNat 4) (Int.ofNat i) = false := by rw [ileB_eq]; exact decide_eq_false (by show ¬ (4 : Int) ≤ (i : Int); omega)
theorem okAt_of {al : Bool} {ls l2 js rs : List AV} {i : Nat} (h1 : lostL ls (Int.ofNat i) = false) (h2 : lostL l2 (Int.ofNat i) = false) (h3 : inW js (Int.ofNat i) (atL ls (Int.ofNat i)) (bytesEq (bytesL (atL ls (Int.ofNat i))) (bytesL (atL l2 (Int.ofNat i)))) = true)
    (h4 : (cA rs i).isStr = true) (h5 : al = true → bytesEq (bytesL (atL ls (Int.ofNat i))) (cA rs i).strOf = true) : okAt al ls l2 js rs i = true := by
  unfold okAt
  rw [h1, h2, h3, h4]
  cases al with
  | false => rfl
  | true => rw [h5 rfl]; rfl
theorem show_nil {l : SL} (al : Bool) (h : noL l) : showB al (encL l) (encL l) [] (lastR (encL l) []) = true := by
  unfold showB
  rw [List.all_eq_true]
  intro i hi
  have hi : i < 4 := List.mem_range.1 hi
  refine okAt_of (lost_no h i) (lost_no h i) (by rw [inW_nil, bEq_self]) (by rw [cA_lastR _ _ hi]; rfl) fun _ => ?_
  rw [cA_lastR _ _ hi]
  show bytesEq _ (stR false 4 (encL l) [] (Int.ofNat i)) = true
  unfold stR
  rw [ilt_ofNat, ile_4 hi, hasW_nil, lost_no h i]
  exact bEq_self _
theorem show_ok {l : SL} {w : WL} {kc : List AV} {al : Bool} (h1 : l.length = 4) (h2 : noL l) (h3 : okW 4 w) (ha : al = true → kc = truesA w.length) :
    showB al (crashL (encL l) (encW w) kc) (encL l) (encW w) (lastR (encL l) (encW w)) = true := by
  unfold showB
  rw [List.all_eq_true]
  intro i hi
  have hi : i < 4 := List.mem_range.1 hi
  have hl : i < l.length := by omega
  have ec : crashL (encL l) (encW w) kc = encL (crF w (boolsL kc) l) := by unfold crashL; rw [decW_encW, decL_encL]
  rw [ec]
  refine okAt_of (lost_no (crF_noL _ _ _ h2) i) (lost_no h2 i) ?_ (by rw [cA_lastR _ _ hi]; rfl) fun e => ?_
  · unfold inW
    rw [decW_encW, inF_any, at_dat, at_dat]
    rcases cr_at (boolsL kc) i w.zipIdx l hl with e | ⟨p, hp, e1, e2⟩
    · have e : (crF w (boolsL kc) l)[i]? = l[i]? := e
      rw [e, bEq_self, Bool.true_or]
    · have e2 : (crF w (boolsL kc) l)[i]? = some (some p.1.2, false) := e2
      rw [e2]
      have hm : p.1 ∈ w := List.fst_mem_of_mem_zipIdx hp
      have h0 := (h3 p.1 hm).1
      have e3 : p.1.1 = Int.ofNat i := by show _ = (i : Int); omega
      have : (w.any fun q => ieqB q.1 (Int.ofNat i) && bytesEq q.2 (datO (some (some p.1.2, false)))) = true := by
        rw [List.any_eq_true]
        refine ⟨p.1, hm, ?_⟩
        rw [e3, ieqB_self]
        exact bEq_self _
      rw [this, Bool.or_true]
  · rw [cA_lastR _ _ hi, at_dat]
    show bytesEq _ (stR false 4 (encL l) (encW w) (Int.ofNat i)) = true
    have ek : crF w (boolsL kc) l = w.foldl setl l := by
      rw [ha e]
      unfold truesA
      rw [boolsL_encB]
      exact cr_all _ w 0 l fun m hm => by
        rw [List.getD_eq_getElem?_getD, List.getElem?_replicate, if_pos (by omega)]; rfl
    have el := last_at h3 hl w.length (Nat.le_refl _)
    rw [List.take_length] at el
    rw [ek, el]
    have eh : hasW (encW w) (Int.ofNat i) = (lastI w (Int.ofNat i) w.length).isSome := by unfold hasW lastX; rw [decW_encW]
    have ex : idxW (encW w) (Int.ofNat i) = (lastI w (Int.ofNat i) w.length).getD 0 := by unfold idxW lastX; rw [decW_encW]
    unfold stR
    rw [ilt_ofNat, ile_4 hi, lost_no h2 i, eh]
    cases e5 : lastI w (Int.ofNat i) w.length with
    | none =>
      show bytesEq (datO l[i]?) (bytesL (atL (encL l) (Int.ofNat i))) = true
      rw [at_dat]; exact bEq_self _
    | some j =>
      show bytesEq (wAt w j) (bytesL (atW (encW w) (Int.ofNat i))) = true
      unfold atW
      rw [ex, e5, decW_encW, bytesL_ofBytes]
      exact bEq_self _
end Go.Ab
end
end
