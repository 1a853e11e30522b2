/- Texts of the abstract machine and of the laws, merged. -/
import Derived.Test.YtecncappdnhbaaaG5
/- SectorCommits: the law, by cases. -/
section
set_option autoImplicit false
set_option linter.unusedVariables false
set_option linter.unusedSimpArgs false
set_option maxRecDepth 100000
noncomputable section
namespace Go.Proofs.Ytecncappdnhbaaa
open Go.Ab.M Go.Ab Go
theorem commits_run (a : Bool) (s c g : Int) (b : List UInt8) (w : Bool) (s0 : 0 ≤ s) (s1 : s < 256) (c0 : 0 ≤ c) (c1 : c < 256) (g0 : 0 ≤ g) (g1 : g < 18446744073709551616) :
    ∃ h', aCall C6c 60 (Tgt.fn 10) [AV.int IntKind.u8 s, AV.int IntKind.u8 c, AV.int IntKind.u64 g, AV.fsl a b.length (ofBytes b), AV.bool w] H0 = some (AV.bool true, h') := by
  by_cases hb : b.length ≤ 600
  case neg =>
    obtain ⟨h', h, _⟩ := sc_long s c g a b.length (ofBytes b) w (by rw [iltB_eq]; exact decide_eq_true (by show ((600 : Nat) : Int) < (b.length : Int); omega))
    exact ⟨h', h⟩
  have k0 : iltB (Int.ofNat 600) (Int.ofNat b.length) = false := by rw [iltB_eq]; exact decide_eq_false (by show ¬ ((600 : Nat) : Int) < (b.length : Int); omega)
  have k1 : ileB (Int.ofNat 0) s = true := by rw [ileB_eq]; exact decide_eq_true s0
  have k2 : ileB (Int.ofNat 0) c = true := by rw [ileB_eq]; exact decide_eq_true c0
  have k3 : ileB (Int.ofNat 0) g = true := by rw [ileB_eq]; exact decide_eq_true g0
  have k4 : iltB g (Int.ofNat 18446744073709551616) = true := by rw [iltB_eq]; exact decide_eq_true g1
  have f1 : rowCut (ofBytes (commitB s.toNat c.toNat g.toNat)) 0 512 = ofBytes (commitB s.toNat c.toNat g.toNat) := by
    rw [rowCut_ofBytes, List.drop_zero, List.take_of_length_le (by rw [commitB_length]; omega)]
  have fc := commitB_parts s.toNat c.toNat g.toNat (by omega) (by omega) (by omega)
  have f3 : byteI (commitB s.toNat c.toNat g.toNat) 2 = s := by rw [fc.1]; omega
  have f4 : byteI (commitB s.toNat c.toNat g.toNat) 3 = c := by rw [fc.2.1]; omega
  have f5 : genI (commitB s.toNat c.toNat g.toNat) = g := by rw [fc.2.2.1]; omega
  have f6 : bytesEq (commitB s.toNat c.toNat g.toNat) [] = false := (bytesEq_nil (commitB_length _ _ _)).1
  have f7 : ∀ x : List UInt8, bytesEq x x = true := bytesEq_self
  have fl : (commitB s.toNat c.toNat g.toNat).length = 512 := commitB_length _ _ _
  have gl : ∀ x : List UInt8, iltB (genI x) (Int.ofNat 18446744073709551616) = true := fun x => by rw [iltB_eq]; exact decide_eq_true (genI_lt x)
  have gp : ∀ x : List UInt8, ileB (Int.ofNat 0) (genI x) = true := fun x => by rw [ileB_eq]; exact decide_eq_true (by show (0 : Int) ≤ genI x; unfold genI; omega)
  have bp : ∀ (x : List UInt8) (i : Nat), ileB (Int.ofNat 0) (byteI x i) = true := fun x i => by rw [ileB_eq]; exact decide_eq_true (by show (0 : Int) ≤ byteI x i; unfold byteI; omega)
  have ii : ∀ x : Int, ieqB x x = true := fun x => by rw [ieqB_eq]; exact beq_self_eq_true x
  have hM : (padB 512 (b.take 512)).length = 512 := padB_length 512 _ (by rw [List.length_take]; omega)
  have m1 : rowCut (ofBytes (padB 512 (b.take 512))) 0 512 = ofBytes (padB 512 (b.take 512)) := by
    rw [rowCut_ofBytes, List.drop_zero, List.take_of_length_le (by omega)]
  cases hr : rightC s c with
  | true =>
    have f2 : isCB (commitB s.toNat c.toNat g.toNat) = true := by
      have hr2 := hr
      unfold rightC at hr2
      simp only [Bool.and_eq_true, decide_eq_true_eq] at hr2
      exact isCB_commitB _ _ _ (by omega) (by omega) (by omega)
    cases w with
    | false =>
      cases hz : isCB b with
      | true =>
        have z1 := commitB_of hz
        have zr : rightC (byteI b 2) (byteI b 3) = true := by
          have hz2 := hz
          unfold isCB at hz2
          simp only [Bool.and_eq_true] at hz2
          exact hz2.1.2
        have key := sc_r_y s c g a b.length (ofBytes b)
        replace key := key (by
          (try simp only [kept_eq, bytesL_ofBytes, bytesOf_ofBytes, Option.getD_some, hr, f1, f2, f3, f4, f5, f6, f7, ii, k0, k1, k2, k3, k4, hz, zr, z1, gl, gp, bp, AV.intOf])
          first
            | done
            | rfl
            | assumption
            | exact ofBytes_plainL _
            | exact u8L_ofBytes _
            | (simp [nbeq, nble, iltB_eq, ileB_eq, ieqB_eq, u8L_ofBytes, bytesL_ofBytes, bytesOf_ofBytes, ofBytes_plainL, ofBytes_length, AV.intOf, AV.isInt, fl, f7, f6, ii]; done)
            | (simp [nbeq, nble, iltB_eq, ileB_eq, ieqB_eq, u8L_ofBytes, bytesL_ofBytes, bytesOf_ofBytes, ofBytes_plainL, ofBytes_length, AV.intOf, AV.isInt, fl, f7, f6, ii]; omega))
        replace key := key (by
          (try simp only [kept_eq, bytesL_ofBytes, bytesOf_ofBytes, Option.getD_some, hr, f1, f2, f3, f4, f5, f6, f7, ii, k0, k1, k2, k3, k4, hz, zr, z1, gl, gp, bp, AV.intOf])
          first
            | done
            | rfl
            | assumption
            | exact ofBytes_plainL _
            | exact u8L_ofBytes _
            | (simp [nbeq, nble, iltB_eq, ileB_eq, ieqB_eq, u8L_ofBytes, bytesL_ofBytes, bytesOf_ofBytes, ofBytes_plainL, ofBytes_length, AV.intOf, AV.isInt, fl, f7, f6, ii]; done)
            | (simp [nbeq, nble, iltB_eq, ileB_eq, ieqB_eq, u8L_ofBytes, bytesL_ofBytes, bytesOf_ofBytes, ofBytes_plainL, ofBytes_length, AV.intOf, AV.isInt, fl, f7, f6, ii]; omega))
        replace key := key (by
          (try simp only [kept_eq, bytesL_ofBytes, bytesOf_ofBytes, Option.getD_some, hr, f1, f2, f3, f4, f5, f6, f7, ii, k0, k1, k2, k3, k4, hz, zr, z1, gl, gp, bp, AV.intOf])
          first
            | done
            | rfl
            | assumption
            | exact ofBytes_plainL _
            | exact u8L_ofBytes _
            | (simp [nbeq, nble, iltB_eq, ileB_eq, ieqB_eq, u8L_ofBytes, bytesL_ofBytes, bytesOf_ofBytes, ofBytes_plainL, ofBytes_length, AV.intOf, AV.isInt, fl, f7, f6, ii]; done)
            | (simp [nbeq, nble, iltB_eq, ileB_eq, ieqB_eq, u8L_ofBytes, bytesL_ofBytes, bytesOf_ofBytes, ofBytes_plainL, ofBytes_length, AV.intOf, AV.isInt, fl, f7, f6, ii]; omega))
        replace key := key (by
          (try simp only [kept_eq, bytesL_ofBytes, bytesOf_ofBytes, Option.getD_some, hr, f1, f2, f3, f4, f5, f6, f7, ii, k0, k1, k2, k3, k4, hz, zr, z1, gl, gp, bp, AV.intOf])
          first
            | done
            | rfl
            | assumption
            | exact ofBytes_plainL _
            | exact u8L_ofBytes _
            | (simp [nbeq, nble, iltB_eq, ileB_eq, ieqB_eq, u8L_ofBytes, bytesL_ofBytes, bytesOf_ofBytes, ofBytes_plainL, ofBytes_length, AV.intOf, AV.isInt, fl, f7, f6, ii]; done)
            | (simp [nbeq, nble, iltB_eq, ileB_eq, ieqB_eq, u8L_ofBytes, bytesL_ofBytes, bytesOf_ofBytes, ofBytes_plainL, ofBytes_length, AV.intOf, AV.isInt, fl, f7, f6, ii]; omega))
        replace key := key (by
          (try simp only [kept_eq, bytesL_ofBytes, bytesOf_ofBytes, Option.getD_some, hr, f1, f2, f3, f4, f5, f6, f7, ii, k0, k1, k2, k3, k4, hz, zr, z1, gl, gp, bp, AV.intOf])
          first
            | done
            | rfl
            | assumption
            | exact ofBytes_plainL _
            | exact u8L_ofBytes _
            | (simp [nbeq, nble, iltB_eq, ileB_eq, ieqB_eq, u8L_ofBytes, bytesL_ofBytes, bytesOf_ofBytes, ofBytes_plainL, ofBytes_length, AV.intOf, AV.isInt, fl, f7, f6, ii]; done)
            | (simp [nbeq, nble, iltB_eq, ileB_eq, ieqB_eq, u8L_ofBytes, bytesL_ofBytes, bytesOf_ofBytes, ofBytes_plainL, ofBytes_length, AV.intOf, AV.isInt, fl, f7, f6, ii]; omega))
        replace key := key (by
          (try simp only [kept_eq, bytesL_ofBytes, bytesOf_ofBytes, Option.getD_some, hr, f1, f2, f3, f4, f5, f6, f7, ii, k0, k1, k2, k3, k4, hz, zr, z1, gl, gp, bp, AV.intOf])
          first
            | done
            | rfl
            | assumption
            | exact ofBytes_plainL _
            | exact u8L_ofBytes _
            | (simp [nbeq, nble, iltB_eq, ileB_eq, ieqB_eq, u8L_ofBytes, bytesL_ofBytes, bytesOf_ofBytes, ofBytes_plainL, ofBytes_length, AV.intOf, AV.isInt, fl, f7, f6, ii]; done)
            | (simp [nbeq, nble, iltB_eq, ileB_eq, ieqB_eq, u8L_ofBytes, bytesL_ofBytes, bytesOf_ofBytes, ofBytes_plainL, ofBytes_length, AV.intOf, AV.isInt, fl, f7, f6, ii]; omega))
        replace key := key (by
          (try simp only [kept_eq, bytesL_ofBytes, bytesOf_ofBytes, Option.getD_some, hr, f1, f2, f3, f4, f5, f6, f7, ii, k0, k1, k2, k3, k4, hz, zr, z1, gl, gp, bp, AV.intOf])
          first
            | done
            | rfl
            | assumption
            | exact ofBytes_plainL _
            | exact u8L_ofBytes _
            | (simp [nbeq, nble, iltB_eq, ileB_eq, ieqB_eq, u8L_ofBytes, bytesL_ofBytes, bytesOf_ofBytes, ofBytes_plainL, ofBytes_length, AV.intOf, AV.isInt, fl, f7, f6, ii]; done)
            | (simp [nbeq, nble, iltB_eq, ileB_eq, ieqB_eq, u8L_ofBytes, bytesL_ofBytes, bytesOf_ofBytes, ofBytes_plainL, ofBytes_length, AV.intOf, AV.isInt, fl, f7, f6, ii]; omega))
        replace key := key (by
          (try simp only [kept_eq, bytesL_ofBytes, bytesOf_ofBytes, Option.getD_some, hr, f1, f2, f3, f4, f5, f6, f7, ii, k0, k1, k2, k3, k4, hz, zr, z1, gl, gp, bp, AV.intOf])
          first
            | done
            | rfl
            | assumption
            | exact ofBytes_plainL _
            | exact u8L_ofBytes _
            | (simp [nbeq, nble, iltB_eq, ileB_eq, ieqB_eq, u8L_ofBytes, bytesL_ofBytes, bytesOf_ofBytes, ofBytes_plainL, ofBytes_length, AV.intOf, AV.isInt, fl, f7, f6, ii]; done)
            | (simp [nbeq, nble, iltB_eq, ileB_eq, ieqB_eq, u8L_ofBytes, bytesL_ofBytes, bytesOf_ofBytes, ofBytes_plainL, ofBytes_length, AV.intOf, AV.isInt, fl, f7, f6, ii]; omega))
        replace key := key (by
          (try simp only [kept_eq, bytesL_ofBytes, bytesOf_ofBytes, Option.getD_some, hr, f1, f2, f3, f4, f5, f6, f7, ii, k0, k1, k2, k3, k4, hz, zr, z1, gl, gp, bp, AV.intOf])
          first
            | done
            | rfl
            | assumption
            | exact ofBytes_plainL _
            | exact u8L_ofBytes _
            | (simp [nbeq, nble, iltB_eq, ileB_eq, ieqB_eq, u8L_ofBytes, bytesL_ofBytes, bytesOf_ofBytes, ofBytes_plainL, ofBytes_length, AV.intOf, AV.isInt, fl, f7, f6, ii]; done)
            | (simp [nbeq, nble, iltB_eq, ileB_eq, ieqB_eq, u8L_ofBytes, bytesL_ofBytes, bytesOf_ofBytes, ofBytes_plainL, ofBytes_length, AV.intOf, AV.isInt, fl, f7, f6, ii]; omega))
        replace key := key (by
          (try simp only [kept_eq, bytesL_ofBytes, bytesOf_ofBytes, Option.getD_some, hr, f1, f2, f3, f4, f5, f6, f7, ii, k0, k1, k2, k3, k4, hz, zr, z1, gl, gp, bp, AV.intOf])
          first
            | done
            | rfl
            | assumption
            | exact ofBytes_plainL _
            | exact u8L_ofBytes _
            | (simp [nbeq, nble, iltB_eq, ileB_eq, ieqB_eq, u8L_ofBytes, bytesL_ofBytes, bytesOf_ofBytes, ofBytes_plainL, ofBytes_length, AV.intOf, AV.isInt, fl, f7, f6, ii]; done)
            | (simp [nbeq, nble, iltB_eq, ileB_eq, ieqB_eq, u8L_ofBytes, bytesL_ofBytes, bytesOf_ofBytes, ofBytes_plainL, ofBytes_length, AV.intOf, AV.isInt, fl, f7, f6, ii]; omega))
        replace key := key (by
          (try simp only [kept_eq, bytesL_ofBytes, bytesOf_ofBytes, Option.getD_some, hr, f1, f2, f3, f4, f5, f6, f7, ii, k0, k1, k2, k3, k4, hz, zr, z1, gl, gp, bp, AV.intOf])
          first
            | done
            | rfl
            | assumption
            | exact ofBytes_plainL _
            | exact u8L_ofBytes _
            | (simp [nbeq, nble, iltB_eq, ileB_eq, ieqB_eq, u8L_ofBytes, bytesL_ofBytes, bytesOf_ofBytes, ofBytes_plainL, ofBytes_length, AV.intOf, AV.isInt, fl, f7, f6, ii]; done)
            | (simp [nbeq, nble, iltB_eq, ileB_eq, ieqB_eq, u8L_ofBytes, bytesL_ofBytes, bytesOf_ofBytes, ofBytes_plainL, ofBytes_length, AV.intOf, AV.isInt, fl, f7, f6, ii]; omega))
        replace key := key (by
          (try simp only [kept_eq, bytesL_ofBytes, bytesOf_ofBytes, Option.getD_some, hr, f1, f2, f3, f4, f5, f6, f7, ii, k0, k1, k2, k3, k4, hz, zr, z1, gl, gp, bp, AV.intOf])
          first
            | done
            | rfl
            | assumption
            | exact ofBytes_plainL _
            | exact u8L_ofBytes _
            | (simp [nbeq, nble, iltB_eq, ileB_eq, ieqB_eq, u8L_ofBytes, bytesL_ofBytes, bytesOf_ofBytes, ofBytes_plainL, ofBytes_length, AV.intOf, AV.isInt, fl, f7, f6, ii]; done)
            | (simp [nbeq, nble, iltB_eq, ileB_eq, ieqB_eq, u8L_ofBytes, bytesL_ofBytes, bytesOf_ofBytes, ofBytes_plainL, ofBytes_length, AV.intOf, AV.isInt, fl, f7, f6, ii]; omega))
        replace key := key (by
          (try simp only [kept_eq, bytesL_ofBytes, bytesOf_ofBytes, Option.getD_some, hr, f1, f2, f3, f4, f5, f6, f7, ii, k0, k1, k2, k3, k4, hz, zr, z1, gl, gp, bp, AV.intOf])
          first
            | done
            | rfl
            | assumption
            | exact ofBytes_plainL _
            | exact u8L_ofBytes _
            | (simp [nbeq, nble, iltB_eq, ileB_eq, ieqB_eq, u8L_ofBytes, bytesL_ofBytes, bytesOf_ofBytes, ofBytes_plainL, ofBytes_length, AV.intOf, AV.isInt, fl, f7, f6, ii]; done)
            | (simp [nbeq, nble, iltB_eq, ileB_eq, ieqB_eq, u8L_ofBytes, bytesL_ofBytes, bytesOf_ofBytes, ofBytes_plainL, ofBytes_length, AV.intOf, AV.isInt, fl, f7, f6, ii]; omega))
        replace key := key (by
          (try simp only [kept_eq, bytesL_ofBytes, bytesOf_ofBytes, Option.getD_some, hr, f1, f2, f3, f4, f5, f6, f7, ii, k0, k1, k2, k3, k4, hz, zr, z1, gl, gp, bp, AV.intOf])
          first
            | done
            | rfl
            | assumption
            | exact ofBytes_plainL _
            | exact u8L_ofBytes _
            | (simp [nbeq, nble, iltB_eq, ileB_eq, ieqB_eq, u8L_ofBytes, bytesL_ofBytes, bytesOf_ofBytes, ofBytes_plainL, ofBytes_length, AV.intOf, AV.isInt, fl, f7, f6, ii]; done)
            | (simp [nbeq, nble, iltB_eq, ileB_eq, ieqB_eq, u8L_ofBytes, bytesL_ofBytes, bytesOf_ofBytes, ofBytes_plainL, ofBytes_length, AV.intOf, AV.isInt, fl, f7, f6, ii]; omega))
        replace key := key (by
          (try simp only [kept_eq, bytesL_ofBytes, bytesOf_ofBytes, Option.getD_some, hr, f1, f2, f3, f4, f5, f6, f7, ii, k0, k1, k2, k3, k4, hz, zr, z1, gl, gp, bp, AV.intOf])
          first
            | done
            | rfl
            | assumption
            | exact ofBytes_plainL _
            | exact u8L_ofBytes _
            | (simp [nbeq, nble, iltB_eq, ileB_eq, ieqB_eq, u8L_ofBytes, bytesL_ofBytes, bytesOf_ofBytes, ofBytes_plainL, ofBytes_length, AV.intOf, AV.isInt, fl, f7, f6, ii]; done)
            | (simp [nbeq, nble, iltB_eq, ileB_eq, ieqB_eq, u8L_ofBytes, bytesL_ofBytes, bytesOf_ofBytes, ofBytes_plainL, ofBytes_length, AV.intOf, AV.isInt, fl, f7, f6, ii]; omega))
        replace key := key (by
          (try simp only [kept_eq, bytesL_ofBytes, bytesOf_ofBytes, Option.getD_some, hr, f1, f2, f3, f4, f5, f6, f7, ii, k0, k1, k2, k3, k4, hz, zr, z1, gl, gp, bp, AV.intOf])
          first
            | done
            | rfl
            | assumption
            | exact ofBytes_plainL _
            | exact u8L_ofBytes _
            | (simp [nbeq, nble, iltB_eq, ileB_eq, ieqB_eq, u8L_ofBytes, bytesL_ofBytes, bytesOf_ofBytes, ofBytes_plainL, ofBytes_length, AV.intOf, AV.isInt, fl, f7, f6, ii]; done)
            | (simp [nbeq, nble, iltB_eq, ileB_eq, ieqB_eq, u8L_ofBytes, bytesL_ofBytes, bytesOf_ofBytes, ofBytes_plainL, ofBytes_length, AV.intOf, AV.isInt, fl, f7, f6, ii]; omega))
        replace key := key (by
          (try simp only [kept_eq, bytesL_ofBytes, bytesOf_ofBytes, Option.getD_some, hr, f1, f2, f3, f4, f5, f6, f7, ii, k0, k1, k2, k3, k4, hz, zr, z1, gl, gp, bp, AV.intOf])
          first
            | done
            | rfl
            | assumption
            | exact ofBytes_plainL _
            | exact u8L_ofBytes _
            | (simp [nbeq, nble, iltB_eq, ileB_eq, ieqB_eq, u8L_ofBytes, bytesL_ofBytes, bytesOf_ofBytes, ofBytes_plainL, ofBytes_length, AV.intOf, AV.isInt, fl, f7, f6, ii]; done)
            | (simp [nbeq, nble, iltB_eq, ileB_eq, ieqB_eq, u8L_ofBytes, bytesL_ofBytes, bytesOf_ofBytes, ofBytes_plainL, ofBytes_length, AV.intOf, AV.isInt, fl, f7, f6, ii]; omega))
        replace key := key (by
          (try simp only [kept_eq, bytesL_ofBytes, bytesOf_ofBytes, Option.getD_some, hr, f1, f2, f3, f4, f5, f6, f7, ii, k0, k1, k2, k3, k4, hz, zr, z1, gl, gp, bp, AV.intOf])
          first
            | done
            | rfl
            | assumption
            | exact ofBytes_plainL _
            | exact u8L_ofBytes _
            | (simp [nbeq, nble, iltB_eq, ileB_eq, ieqB_eq, u8L_ofBytes, bytesL_ofBytes, bytesOf_ofBytes, ofBytes_plainL, ofBytes_length, AV.intOf, AV.isInt, fl, f7, f6, ii]; done)
            | (simp [nbeq, nble, iltB_eq, ileB_eq, ieqB_eq, u8L_ofBytes, bytesL_ofBytes, bytesOf_ofBytes, ofBytes_plainL, ofBytes_length, AV.intOf, AV.isInt, fl, f7, f6, ii]; omega))
        replace key := key (by
          (try simp only [kept_eq, bytesL_ofBytes, bytesOf_ofBytes, Option.getD_some, hr, f1, f2, f3, f4, f5, f6, f7, ii, k0, k1, k2, k3, k4, hz, zr, z1, gl, gp, bp, AV.intOf])
          first
            | done
            | rfl
            | assumption
            | exact ofBytes_plainL _
            | exact u8L_ofBytes _
            | (simp [nbeq, nble, iltB_eq, ileB_eq, ieqB_eq, u8L_ofBytes, bytesL_ofBytes, bytesOf_ofBytes, ofBytes_plainL, ofBytes_length, AV.intOf, AV.isInt, fl, f7, f6, ii]; done)
            | (simp [nbeq, nble, iltB_eq, ileB_eq, ieqB_eq, u8L_ofBytes, bytesL_ofBytes, bytesOf_ofBytes, ofBytes_plainL, ofBytes_length, AV.intOf, AV.isInt, fl, f7, f6, ii]; omega))
        replace key := key (by
          (try simp only [kept_eq, bytesL_ofBytes, bytesOf_ofBytes, Option.getD_some, hr, f1, f2, f3, f4, f5, f6, f7, ii, k0, k1, k2, k3, k4, hz, zr, z1, gl, gp, bp, AV.intOf])
          first
            | done
            | rfl
            | assumption
            | exact ofBytes_plainL _
            | exact u8L_ofBytes _
            | (simp [nbeq, nble, iltB_eq, ileB_eq, ieqB_eq, u8L_ofBytes, bytesL_ofBytes, bytesOf_ofBytes, ofBytes_plainL, ofBytes_length, AV.intOf, AV.isInt, fl, f7, f6, ii]; done)
            | (simp [nbeq, nble, iltB_eq, ileB_eq, ieqB_eq, u8L_ofBytes, bytesL_ofBytes, bytesOf_ofBytes, ofBytes_plainL, ofBytes_length, AV.intOf, AV.isInt, fl, f7, f6, ii]; omega))
        replace key := key (by
          (try simp only [kept_eq, bytesL_ofBytes, bytesOf_ofBytes, Option.getD_some, hr, f1, f2, f3, f4, f5, f6, f7, ii, k0, k1, k2, k3, k4, hz, zr, z1, gl, gp, bp, AV.intOf])
          first
            | done
            | rfl
            | assumption
            | exact ofBytes_plainL _
            | exact u8L_ofBytes _
            | (simp [nbeq, nble, iltB_eq, ileB_eq, ieqB_eq, u8L_ofBytes, bytesL_ofBytes, bytesOf_ofBytes, ofBytes_plainL, ofBytes_length, AV.intOf, AV.isInt, fl, f7, f6, ii]; done)
            | (simp [nbeq, nble, iltB_eq, ileB_eq, ieqB_eq, u8L_ofBytes, bytesL_ofBytes, bytesOf_ofBytes, ofBytes_plainL, ofBytes_length, AV.intOf, AV.isInt, fl, f7, f6, ii]; omega))
        replace key := key (by
          (try simp only [kept_eq, bytesL_ofBytes, bytesOf_ofBytes, Option.getD_some, hr, f1, f2, f3, f4, f5, f6, f7, ii, k0, k1, k2, k3, k4, hz, zr, z1, gl, gp, bp, AV.intOf])
          first
            | done
            | rfl
            | assumption
            | exact ofBytes_plainL _
            | exact u8L_ofBytes _
            | (simp [nbeq, nble, iltB_eq, ileB_eq, ieqB_eq, u8L_ofBytes, bytesL_ofBytes, bytesOf_ofBytes, ofBytes_plainL, ofBytes_length, AV.intOf, AV.isInt, fl, f7, f6, ii]; done)
            | (simp [nbeq, nble, iltB_eq, ileB_eq, ieqB_eq, u8L_ofBytes, bytesL_ofBytes, bytesOf_ofBytes, ofBytes_plainL, ofBytes_length, AV.intOf, AV.isInt, fl, f7, f6, ii]; omega))
        replace key := key (by
          (try simp only [kept_eq, bytesL_ofBytes, bytesOf_ofBytes, Option.getD_some, hr, f1, f2, f3, f4, f5, f6, f7, ii, k0, k1, k2, k3, k4, hz, zr, z1, gl, gp, bp, AV.intOf])
          first
            | done
            | rfl
            | assumption
            | exact ofBytes_plainL _
            | exact u8L_ofBytes _
            | (simp [nbeq, nble, iltB_eq, ileB_eq, ieqB_eq, u8L_ofBytes, bytesL_ofBytes, bytesOf_ofBytes, ofBytes_plainL, ofBytes_length, AV.intOf, AV.isInt, fl, f7, f6, ii]; done)
            | (simp [nbeq, nble, iltB_eq, ileB_eq, ieqB_eq, u8L_ofBytes, bytesL_ofBytes, bytesOf_ofBytes, ofBytes_plainL, ofBytes_length, AV.intOf, AV.isInt, fl, f7, f6, ii]; omega))
        replace key := key (by
          (try simp only [kept_eq, bytesL_ofBytes, bytesOf_ofBytes, Option.getD_some, hr, f1, f2, f3, f4, f5, f6, f7, ii, k0, k1, k2, k3, k4, hz, zr, z1, gl, gp, bp, AV.intOf])
          first
            | done
            | rfl
            | assumption
            | exact ofBytes_plainL _
            | exact u8L_ofBytes _
            | (simp [nbeq, nble, iltB_eq, ileB_eq, ieqB_eq, u8L_ofBytes, bytesL_ofBytes, bytesOf_ofBytes, ofBytes_plainL, ofBytes_length, AV.intOf, AV.isInt, fl, f7, f6, ii]; done)
            | (simp [nbeq, nble, iltB_eq, ileB_eq, ieqB_eq, u8L_ofBytes, bytesL_ofBytes, bytesOf_ofBytes, ofBytes_plainL, ofBytes_length, AV.intOf, AV.isInt, fl, f7, f6, ii]; omega))
        obtain ⟨h', h, _⟩ := key
        refine ⟨h', h.trans ?_⟩
        (try simp only [kept_eq, bytesL_ofBytes, bytesOf_ofBytes, Option.getD_some, hr, f1, f2, f3, f4, f5, f6, f7, ii, k0, k1, k2, k3, k4, hz, zr, z1, gl, gp, bp, AV.intOf])
        first
          | done
          | rfl
          | (simp [fl, f7, f6, ii]; done)
      | false =>
        by_cases hl : b.length = 512
        case neg =>
          have zl : (!ieqB (Int.ofNat b.length) (Int.ofNat 512)) = true := by rw [ieqB_eq]; simp; exact fun e => hl (by omega)
          have key := sc_r_n1 s c g a b.length (ofBytes b)
          replace key := key (by
            (try simp only [kept_eq, bytesL_ofBytes, bytesOf_ofBytes, Option.getD_some, hr, f1, f2, f3, f4, f5, f6, f7, ii, k0, k1, k2, k3, k4, hz, zl, AV.intOf])
            first
              | done
              | rfl
              | assumption
              | exact ofBytes_plainL _
              | exact u8L_ofBytes _
              | (simp [nbeq, nble, iltB_eq, ileB_eq, ieqB_eq, u8L_ofBytes, bytesL_ofBytes, bytesOf_ofBytes, ofBytes_plainL, ofBytes_length, AV.intOf, AV.isInt, fl, f7, f6, ii]; done)
              | (simp [nbeq, nble, iltB_eq, ileB_eq, ieqB_eq, u8L_ofBytes, bytesL_ofBytes, bytesOf_ofBytes, ofBytes_plainL, ofBytes_length, AV.intOf, AV.isInt, fl, f7, f6, ii]; omega))
          replace key := key (by
            (try simp only [kept_eq, bytesL_ofBytes, bytesOf_ofBytes, Option.getD_some, hr, f1, f2, f3, f4, f5, f6, f7, ii, k0, k1, k2, k3, k4, hz, zl, AV.intOf])
            first
              | done
              | rfl
              | assumption
              | exact ofBytes_plainL _
              | exact u8L_ofBytes _
              | (simp [nbeq, nble, iltB_eq, ileB_eq, ieqB_eq, u8L_ofBytes, bytesL_ofBytes, bytesOf_ofBytes, ofBytes_plainL, ofBytes_length, AV.intOf, AV.isInt, fl, f7, f6, ii]; done)
              | (simp [nbeq, nble, iltB_eq, ileB_eq, ieqB_eq, u8L_ofBytes, bytesL_ofBytes, bytesOf_ofBytes, ofBytes_plainL, ofBytes_length, AV.intOf, AV.isInt, fl, f7, f6, ii]; omega))
          replace key := key (by
            (try simp only [kept_eq, bytesL_ofBytes, bytesOf_ofBytes, Option.getD_some, hr, f1, f2, f3, f4, f5, f6, f7, ii, k0, k1, k2, k3, k4, hz, zl, AV.intOf])
            first
              | done
              | rfl
              | assumption
              | exact ofBytes_plainL _
              | exact u8L_ofBytes _
              | (simp [nbeq, nble, iltB_eq, ileB_eq, ieqB_eq, u8L_ofBytes, bytesL_ofBytes, bytesOf_ofBytes, ofBytes_plainL, ofBytes_length, AV.intOf, AV.isInt, fl, f7, f6, ii]; done)
              | (simp [nbeq, nble, iltB_eq, ileB_eq, ieqB_eq, u8L_ofBytes, bytesL_ofBytes, bytesOf_ofBytes, ofBytes_plainL, ofBytes_length, AV.intOf, AV.isInt, fl, f7, f6, ii]; omega))
          replace key := key (by
            (try simp only [kept_eq, bytesL_ofBytes, bytesOf_ofBytes, Option.getD_some, hr, f1, f2, f3, f4, f5, f6, f7, ii, k0, k1, k2, k3, k4, hz, zl, AV.intOf])
            first
              | done
              | rfl
              | assumption
              | exact ofBytes_plainL _
              | exact u8L_ofBytes _
              | (simp [nbeq, nble, iltB_eq, ileB_eq, ieqB_eq, u8L_ofBytes, bytesL_ofBytes, bytesOf_ofBytes, ofBytes_plainL, ofBytes_length, AV.intOf, AV.isInt, fl, f7, f6, ii]; done)
              | (simp [nbeq, nble, iltB_eq, ileB_eq, ieqB_eq, u8L_ofBytes, bytesL_ofBytes, bytesOf_ofBytes, ofBytes_plainL, ofBytes_length, AV.intOf, AV.isInt, fl, f7, f6, ii]; omega))
          replace key := key (by
            (try simp only [kept_eq, bytesL_ofBytes, bytesOf_ofBytes, Option.getD_some, hr, f1, f2, f3, f4, f5, f6, f7, ii, k0, k1, k2, k3, k4, hz, zl, AV.intOf])
            first
              | done
              | rfl
              | assumption
              | exact ofBytes_plainL _
              | exact u8L_ofBytes _
              | (simp [nbeq, nble, iltB_eq, ileB_eq, ieqB_eq, u8L_ofBytes, bytesL_ofBytes, bytesOf_ofBytes, ofBytes_plainL, ofBytes_length, AV.intOf, AV.isInt, fl, f7, f6, ii]; done)
              | (simp [nbeq, nble, iltB_eq, ileB_eq, ieqB_eq, u8L_ofBytes, bytesL_ofBytes, bytesOf_ofBytes, ofBytes_plainL, ofBytes_length, AV.intOf, AV.isInt, fl, f7, f6, ii]; omega))
          replace key := key (by
            (try simp only [kept_eq, bytesL_ofBytes, bytesOf_ofBytes, Option.getD_some, hr, f1, f2, f3, f4, f5, f6, f7, ii, k0, k1, k2, k3, k4, hz, zl, AV.intOf])
            first
              | done
              | rfl
              | assumption
              | exact ofBytes_plainL _
              | exact u8L_ofBytes _
              | (simp [nbeq, nble, iltB_eq, ileB_eq, ieqB_eq, u8L_ofBytes, bytesL_ofBytes, bytesOf_ofBytes, ofBytes_plainL, ofBytes_length, AV.intOf, AV.isInt, fl, f7, f6, ii]; done)
              | (simp [nbeq, nble, iltB_eq, ileB_eq, ieqB_eq, u8L_ofBytes, bytesL_ofBytes, bytesOf_ofBytes, ofBytes_plainL, ofBytes_length, AV.intOf, AV.isInt, fl, f7, f6, ii]; omega))
          replace key := key (by
            (try simp only [kept_eq, bytesL_ofBytes, bytesOf_ofBytes, Option.getD_some, hr, f1, f2, f3, f4, f5, f6, f7, ii, k0, k1, k2, k3, k4, hz, zl, AV.intOf])
            first
              | done
              | rfl
              | assumption
              | exact ofBytes_plainL _
              | exact u8L_ofBytes _
              | (simp [nbeq, nble, iltB_eq, ileB_eq, ieqB_eq, u8L_ofBytes, bytesL_ofBytes, bytesOf_ofBytes, ofBytes_plainL, ofBytes_length, AV.intOf, AV.isInt, fl, f7, f6, ii]; done)
              | (simp [nbeq, nble, iltB_eq, ileB_eq, ieqB_eq, u8L_ofBytes, bytesL_ofBytes, bytesOf_ofBytes, ofBytes_plainL, ofBytes_length, AV.intOf, AV.isInt, fl, f7, f6, ii]; omega))
          replace key := key (by
            (try simp only [kept_eq, bytesL_ofBytes, bytesOf_ofBytes, Option.getD_some, hr, f1, f2, f3, f4, f5, f6, f7, ii, k0, k1, k2, k3, k4, hz, zl, AV.intOf])
            first
              | done
              | rfl
              | assumption
              | exact ofBytes_plainL _
              | exact u8L_ofBytes _
              | (simp [nbeq, nble, iltB_eq, ileB_eq, ieqB_eq, u8L_ofBytes, bytesL_ofBytes, bytesOf_ofBytes, ofBytes_plainL, ofBytes_length, AV.intOf, AV.isInt, fl, f7, f6, ii]; done)
              | (simp [nbeq, nble, iltB_eq, ileB_eq, ieqB_eq, u8L_ofBytes, bytesL_ofBytes, bytesOf_ofBytes, ofBytes_plainL, ofBytes_length, AV.intOf, AV.isInt, fl, f7, f6, ii]; omega))
          replace key := key (by
            (try simp only [kept_eq, bytesL_ofBytes, bytesOf_ofBytes, Option.getD_some, hr, f1, f2, f3, f4, f5, f6, f7, ii, k0, k1, k2, k3, k4, hz, zl, AV.intOf])
            first
              | done
              | rfl
              | assumption
              | exact ofBytes_plainL _
              | exact u8L_ofBytes _
              | (simp [nbeq, nble, iltB_eq, ileB_eq, ieqB_eq, u8L_ofBytes, bytesL_ofBytes, bytesOf_ofBytes, ofBytes_plainL, ofBytes_length, AV.intOf, AV.isInt, fl, f7, f6, ii]; done)
              | (simp [nbeq, nble, iltB_eq, ileB_eq, ieqB_eq, u8L_ofBytes, bytesL_ofBytes, bytesOf_ofBytes, ofBytes_plainL, ofBytes_length, AV.intOf, AV.isInt, fl, f7, f6, ii]; omega))
          replace key := key (by
            (try simp only [kept_eq, bytesL_ofBytes, bytesOf_ofBytes, Option.getD_some, hr, f1, f2, f3, f4, f5, f6, f7, ii, k0, k1, k2, k3, k4, hz, zl, AV.intOf])
            first
              | done
              | rfl
              | assumption
              | exact ofBytes_plainL _
              | exact u8L_ofBytes _
              | (simp [nbeq, nble, iltB_eq, ileB_eq, ieqB_eq, u8L_ofBytes, bytesL_ofBytes, bytesOf_ofBytes, ofBytes_plainL, ofBytes_length, AV.intOf, AV.isInt, fl, f7, f6, ii]; done)
              | (simp [nbeq, nble, iltB_eq, ileB_eq, ieqB_eq, u8L_ofBytes, bytesL_ofBytes, bytesOf_ofBytes, ofBytes_plainL, ofBytes_length, AV.intOf, AV.isInt, fl, f7, f6, ii]; omega))
          replace key := key (by
            (try simp only [kept_eq, bytesL_ofBytes, bytesOf_ofBytes, Option.getD_some, hr, f1, f2, f3, f4, f5, f6, f7, ii, k0, k1, k2, k3, k4, hz, zl, AV.intOf])
            first
              | done
              | rfl
              | assumption
              | exact ofBytes_plainL _
              | exact u8L_ofBytes _
              | (simp [nbeq, nble, iltB_eq, ileB_eq, ieqB_eq, u8L_ofBytes, bytesL_ofBytes, bytesOf_ofBytes, ofBytes_plainL, ofBytes_length, AV.intOf, AV.isInt, fl, f7, f6, ii]; done)
              | (simp [nbeq, nble, iltB_eq, ileB_eq, ieqB_eq, u8L_ofBytes, bytesL_ofBytes, bytesOf_ofBytes, ofBytes_plainL, ofBytes_length, AV.intOf, AV.isInt, fl, f7, f6, ii]; omega))
          replace key := key (by
            (try simp only [kept_eq, bytesL_ofBytes, bytesOf_ofBytes, Option.getD_some, hr, f1, f2, f3, f4, f5, f6, f7, ii, k0, k1, k2, k3, k4, hz, zl, AV.intOf])
            first
              | done
              | rfl
              | assumption
              | exact ofBytes_plainL _
              | exact u8L_ofBytes _
              | (simp [nbeq, nble, iltB_eq, ileB_eq, ieqB_eq, u8L_ofBytes, bytesL_ofBytes, bytesOf_ofBytes, ofBytes_plainL, ofBytes_length, AV.intOf, AV.isInt, fl, f7, f6, ii]; done)
              | (simp [nbeq, nble, iltB_eq, ileB_eq, ieqB_eq, u8L_ofBytes, bytesL_ofBytes, bytesOf_ofBytes, ofBytes_plainL, ofBytes_length, AV.intOf, AV.isInt, fl, f7, f6, ii]; omega))
          replace key := key (by
            (try simp only [kept_eq, bytesL_ofBytes, bytesOf_ofBytes, Option.getD_some, hr, f1, f2, f3, f4, f5, f6, f7, ii, k0, k1, k2, k3, k4, hz, zl, AV.intOf])
            first
              | done
              | rfl
              | assumption
              | exact ofBytes_plainL _
              | exact u8L_ofBytes _
              | (simp [nbeq, nble, iltB_eq, ileB_eq, ieqB_eq, u8L_ofBytes, bytesL_ofBytes, bytesOf_ofBytes, ofBytes_plainL, ofBytes_length, AV.intOf, AV.isInt, fl, f7, f6, ii]; done)
              | (simp [nbeq, nble, iltB_eq, ileB_eq, ieqB_eq, u8L_ofBytes, bytesL_ofBytes, bytesOf_ofBytes, ofBytes_plainL, ofBytes_length, AV.intOf, AV.isInt, fl, f7, f6, ii]; omega))
          replace key := key (by
            (try simp only [kept_eq, bytesL_ofBytes, bytesOf_ofBytes, Option.getD_some, hr, f1, f2, f3, f4, f5, f6, f7, ii, k0, k1, k2, k3, k4, hz, zl, AV.intOf])
            first
              | done
              | rfl
              | assumption
              | exact ofBytes_plainL _
              | exact u8L_ofBytes _
              | (simp [nbeq, nble, iltB_eq, ileB_eq, ieqB_eq, u8L_ofBytes, bytesL_ofBytes, bytesOf_ofBytes, ofBytes_plainL, ofBytes_length, AV.intOf, AV.isInt, fl, f7, f6, ii]; done)
              | (simp [nbeq, nble, iltB_eq, ileB_eq, ieqB_eq, u8L_ofBytes, bytesL_ofBytes, bytesOf_ofBytes, ofBytes_plainL, ofBytes_length, AV.intOf, AV.isInt, fl, f7, f6, ii]; omega))
          replace key := key (by
            (try simp only [kept_eq, bytesL_ofBytes, bytesOf_ofBytes, Option.getD_some, hr, f1, f2, f3, f4, f5, f6, f7, ii, k0, k1, k2, k3, k4, hz, zl, AV.intOf])
            first
              | done
              | rfl
              | assumption
              | exact ofBytes_plainL _
              | exact u8L_ofBytes _
              | (simp [nbeq, nble, iltB_eq, ileB_eq, ieqB_eq, u8L_ofBytes, bytesL_ofBytes, bytesOf_ofBytes, ofBytes_plainL, ofBytes_length, AV.intOf, AV.isInt, fl, f7, f6, ii]; done)
              | (simp [nbeq, nble, iltB_eq, ileB_eq, ieqB_eq, u8L_ofBytes, bytesL_ofBytes, bytesOf_ofBytes, ofBytes_plainL, ofBytes_length, AV.intOf, AV.isInt, fl, f7, f6, ii]; omega))
          replace key := key (by
            (try simp only [kept_eq, bytesL_ofBytes, bytesOf_ofBytes, Option.getD_some, hr, f1, f2, f3, f4, f5, f6, f7, ii, k0, k1, k2, k3, k4, hz, zl, AV.intOf])
            first
              | done
              | rfl
              | assumption
              | exact ofBytes_plainL _
              | exact u8L_ofBytes _
              | (simp [nbeq, nble, iltB_eq, ileB_eq, ieqB_eq, u8L_ofBytes, bytesL_ofBytes, bytesOf_ofBytes, ofBytes_plainL, ofBytes_length, AV.intOf, AV.isInt, fl, f7, f6, ii]; done)
              | (simp [nbeq, nble, iltB_eq, ileB_eq, ieqB_eq, u8L_ofBytes, bytesL_ofBytes, bytesOf_ofBytes, ofBytes_plainL, ofBytes_length, AV.intOf, AV.isInt, fl, f7, f6, ii]; omega))
          replace key := key (by
            (try simp only [kept_eq, bytesL_ofBytes, bytesOf_ofBytes, Option.getD_some, hr, f1, f2, f3, f4, f5, f6, f7, ii, k0, k1, k2, k3, k4, hz, zl, AV.intOf])
            first
              | done
              | rfl
              | assumption
              | exact ofBytes_plainL _
              | exact u8L_ofBytes _
              | (simp [nbeq, nble, iltB_eq, ileB_eq, ieqB_eq, u8L_ofBytes, bytesL_ofBytes, bytesOf_ofBytes, ofBytes_plainL, ofBytes_length, AV.intOf, AV.isInt, fl, f7, f6, ii]; done)
              | (simp [nbeq, nble, iltB_eq, ileB_eq, ieqB_eq, u8L_ofBytes, bytesL_ofBytes, bytesOf_ofBytes, ofBytes_plainL, ofBytes_length, AV.intOf, AV.isInt, fl, f7, f6, ii]; omega))
          replace key := key (by
            (try simp only [kept_eq, bytesL_ofBytes, bytesOf_ofBytes, Option.getD_some, hr, f1, f2, f3, f4, f5, f6, f7, ii, k0, k1, k2, k3, k4, hz, zl, AV.intOf])
            first
              | done
              | rfl
              | assumption
              | exact ofBytes_plainL _
              | exact u8L_ofBytes _
              | (simp [nbeq, nble, iltB_eq, ileB_eq, ieqB_eq, u8L_ofBytes, bytesL_ofBytes, bytesOf_ofBytes, ofBytes_plainL, ofBytes_length, AV.intOf, AV.isInt, fl, f7, f6, ii]; done)
              | (simp [nbeq, nble, iltB_eq, ileB_eq, ieqB_eq, u8L_ofBytes, bytesL_ofBytes, bytesOf_ofBytes, ofBytes_plainL, ofBytes_length, AV.intOf, AV.isInt, fl, f7, f6, ii]; omega))
          replace key := key (by
            (try simp only [kept_eq, bytesL_ofBytes, bytesOf_ofBytes, Option.getD_some, hr, f1, f2, f3, f4, f5, f6, f7, ii, k0, k1, k2, k3, k4, hz, zl, AV.intOf])
            first
              | done
              | rfl
              | assumption
              | exact ofBytes_plainL _
              | exact u8L_ofBytes _
              | (simp [nbeq, nble, iltB_eq, ileB_eq, ieqB_eq, u8L_ofBytes, bytesL_ofBytes, bytesOf_ofBytes, ofBytes_plainL, ofBytes_length, AV.intOf, AV.isInt, fl, f7, f6, ii]; done)
              | (simp [nbeq, nble, iltB_eq, ileB_eq, ieqB_eq, u8L_ofBytes, bytesL_ofBytes, bytesOf_ofBytes, ofBytes_plainL, ofBytes_length, AV.intOf, AV.isInt, fl, f7, f6, ii]; omega))
          replace key := key (by
            (try simp only [kept_eq, bytesL_ofBytes, bytesOf_ofBytes, Option.getD_some, hr, f1, f2, f3, f4, f5, f6, f7, ii, k0, k1, k2, k3, k4, hz, zl, AV.intOf])
            first
              | done
              | rfl
              | assumption
              | exact ofBytes_plainL _
              | exact u8L_ofBytes _
              | (simp [nbeq, nble, iltB_eq, ileB_eq, ieqB_eq, u8L_ofBytes, bytesL_ofBytes, bytesOf_ofBytes, ofBytes_plainL, ofBytes_length, AV.intOf, AV.isInt, fl, f7, f6, ii]; done)
              | (simp [nbeq, nble, iltB_eq, ileB_eq, ieqB_eq, u8L_ofBytes, bytesL_ofBytes, bytesOf_ofBytes, ofBytes_plainL, ofBytes_length, AV.intOf, AV.isInt, fl, f7, f6, ii]; omega))
          obtain ⟨h', h, _⟩ := key
          refine ⟨h', h.trans ?_⟩
          (try simp only [kept_eq, bytesL_ofBytes, bytesOf_ofBytes, Option.getD_some, hr, f1, f2, f3, f4, f5, f6, f7, ii, k0, k1, k2, k3, k4, hz, zl, AV.intOf])
          first
            | done
            | rfl
            | (simp [fl, f7, f6, ii]; done)
        have zl : (!ieqB (Int.ofNat b.length) (Int.ofNat 512)) = false := by rw [hl]; rfl
        have a2 : (listAt (List.drop 2 (ofBytes b)) 0).getD AV.undef = .int .u8 (byteI b 2) := at_one b 2 (by omega)
        have a3 : (listAt (List.drop 3 (ofBytes b)) 0).getD AV.undef = .int .u8 (byteI b 3) := at_one b 3 (by omega)
        cases zr : rightC (byteI b 2) (byteI b 3) with
        | true =>
          have z1 := not_commitB hz zr (genI_lt b)
          have key := sc_r_n2 s c g a b.length (ofBytes b)
          replace key := key (by
            (try simp only [kept_eq, bytesL_ofBytes, bytesOf_ofBytes, Option.getD_some, hr, f1, f2, f3, f4, f5, f6, f7, ii, k0, k1, k2, k3, k4, hz, zl, zr, z1, a2, a3, gl, gp, bp, AV.intOf])
            first
              | done
              | rfl
              | assumption
              | exact ofBytes_plainL _
              | exact u8L_ofBytes _
              | (simp [nbeq, nble, iltB_eq, ileB_eq, ieqB_eq, u8L_ofBytes, bytesL_ofBytes, bytesOf_ofBytes, ofBytes_plainL, ofBytes_length, AV.intOf, AV.isInt, fl, f7, f6, ii, hl]; done)
              | (simp [nbeq, nble, iltB_eq, ileB_eq, ieqB_eq, u8L_ofBytes, bytesL_ofBytes, bytesOf_ofBytes, ofBytes_plainL, ofBytes_length, AV.intOf, AV.isInt, fl, f7, f6, ii, hl]; omega))
          replace key := key (by
            (try simp only [kept_eq, bytesL_ofBytes, bytesOf_ofBytes, Option.getD_some, hr, f1, f2, f3, f4, f5, f6, f7, ii, k0, k1, k2, k3, k4, hz, zl, zr, z1, a2, a3, gl, gp, bp, AV.intOf])
            first
              | done
              | rfl
              | assumption
              | exact ofBytes_plainL _
              | exact u8L_ofBytes _
              | (simp [nbeq, nble, iltB_eq, ileB_eq, ieqB_eq, u8L_ofBytes, bytesL_ofBytes, bytesOf_ofBytes, ofBytes_plainL, ofBytes_length, AV.intOf, AV.isInt, fl, f7, f6, ii, hl]; done)
              | (simp [nbeq, nble, iltB_eq, ileB_eq, ieqB_eq, u8L_ofBytes, bytesL_ofBytes, bytesOf_ofBytes, ofBytes_plainL, ofBytes_length, AV.intOf, AV.isInt, fl, f7, f6, ii, hl]; omega))
          replace key := key (by
            (try simp only [kept_eq, bytesL_ofBytes, bytesOf_ofBytes, Option.getD_some, hr, f1, f2, f3, f4, f5, f6, f7, ii, k0, k1, k2, k3, k4, hz, zl, zr, z1, a2, a3, gl, gp, bp, AV.intOf])
            first
              | done
              | rfl
              | assumption
              | exact ofBytes_plainL _
              | exact u8L_ofBytes _
              | (simp [nbeq, nble, iltB_eq, ileB_eq, ieqB_eq, u8L_ofBytes, bytesL_ofBytes, bytesOf_ofBytes, ofBytes_plainL, ofBytes_length, AV.intOf, AV.isInt, fl, f7, f6, ii, hl]; done)
              | (simp [nbeq, nble, iltB_eq, ileB_eq, ieqB_eq, u8L_ofBytes, bytesL_ofBytes, bytesOf_ofBytes, ofBytes_plainL, ofBytes_length, AV.intOf, AV.isInt, fl, f7, f6, ii, hl]; omega))
          replace key := key (by
            (try simp only [kept_eq, bytesL_ofBytes, bytesOf_ofBytes, Option.getD_some, hr, f1, f2, f3, f4, f5, f6, f7, ii, k0, k1, k2, k3, k4, hz, zl, zr, z1, a2, a3, gl, gp, bp, AV.intOf])
            first
              | done
              | rfl
              | assumption
              | exact ofBytes_plainL _
              | exact u8L_ofBytes _
              | (simp [nbeq, nble, iltB_eq, ileB_eq, ieqB_eq, u8L_ofBytes, bytesL_ofBytes, bytesOf_ofBytes, ofBytes_plainL, ofBytes_length, AV.intOf, AV.isInt, fl, f7, f6, ii, hl]; done)
              | (simp [nbeq, nble, iltB_eq, ileB_eq, ieqB_eq, u8L_ofBytes, bytesL_ofBytes, bytesOf_ofBytes, ofBytes_plainL, ofBytes_length, AV.intOf, AV.isInt, fl, f7, f6, ii, hl]; omega))
          replace key := key (by
            (try simp only [kept_eq, bytesL_ofBytes, bytesOf_ofBytes, Option.getD_some, hr, f1, f2, f3, f4, f5, f6, f7, ii, k0, k1, k2, k3, k4, hz, zl, zr, z1, a2, a3, gl, gp, bp, AV.intOf])
            first
              | done
              | rfl
              | assumption
              | exact ofBytes_plainL _
              | exact u8L_ofBytes _
              | (simp [nbeq, nble, iltB_eq, ileB_eq, ieqB_eq, u8L_ofBytes, bytesL_ofBytes, bytesOf_ofBytes, ofBytes_plainL, ofBytes_length, AV.intOf, AV.isInt, fl, f7, f6, ii, hl]; done)
              | (simp [nbeq, nble, iltB_eq, ileB_eq, ieqB_eq, u8L_ofBytes, bytesL_ofBytes, bytesOf_ofBytes, ofBytes_plainL, ofBytes_length, AV.intOf, AV.isInt, fl, f7, f6, ii, hl]; omega))
          replace key := key (by
            (try simp only [kept_eq, bytesL_ofBytes, bytesOf_ofBytes, Option.getD_some, hr, f1, f2, f3, f4, f5, f6, f7, ii, k0, k1, k2, k3, k4, hz, zl, zr, z1, a2, a3, gl, gp, bp, AV.intOf])
            first
              | done
              | rfl
              | assumption
              | exact ofBytes_plainL _
              | exact u8L_ofBytes _
              | (simp [nbeq, nble, iltB_eq, ileB_eq, ieqB_eq, u8L_ofBytes, bytesL_ofBytes, bytesOf_ofBytes, ofBytes_plainL, ofBytes_length, AV.intOf, AV.isInt, fl, f7, f6, ii, hl]; done)
              | (simp [nbeq, nble, iltB_eq, ileB_eq, ieqB_eq, u8L_ofBytes, bytesL_ofBytes, bytesOf_ofBytes, ofBytes_plainL, ofBytes_length, AV.intOf, AV.isInt, fl, f7, f6, ii, hl]; omega))
          replace key := key (by
            (try simp only [kept_eq, bytesL_ofBytes, bytesOf_ofBytes, Option.getD_some, hr, f1, f2, f3, f4, f5, f6, f7, ii, k0, k1, k2, k3, k4, hz, zl, zr, z1, a2, a3, gl, gp, bp, AV.intOf])
            first
              | done
              | rfl
              | assumption
              | exact ofBytes_plainL _
              | exact u8L_ofBytes _
              | (simp [nbeq, nble, iltB_eq, ileB_eq, ieqB_eq, u8L_ofBytes, bytesL_ofBytes, bytesOf_ofBytes, ofBytes_plainL, ofBytes_length, AV.intOf, AV.isInt, fl, f7, f6, ii, hl]; done)
              | (simp [nbeq, nble, iltB_eq, ileB_eq, ieqB_eq, u8L_ofBytes, bytesL_ofBytes, bytesOf_ofBytes, ofBytes_plainL, ofBytes_length, AV.intOf, AV.isInt, fl, f7, f6, ii, hl]; omega))
          replace key := key (by
            (try simp only [kept_eq, bytesL_ofBytes, bytesOf_ofBytes, Option.getD_some, hr, f1, f2, f3, f4, f5, f6, f7, ii, k0, k1, k2, k3, k4, hz, zl, zr, z1, a2, a3, gl, gp, bp, AV.intOf])
            first
              | done
              | rfl
              | assumption
              | exact ofBytes_plainL _
              | exact u8L_ofBytes _
              | (simp [nbeq, nble, iltB_eq, ileB_eq, ieqB_eq, u8L_ofBytes, bytesL_ofBytes, bytesOf_ofBytes, ofBytes_plainL, ofBytes_length, AV.intOf, AV.isInt, fl, f7, f6, ii, hl]; done)
              | (simp [nbeq, nble, iltB_eq, ileB_eq, ieqB_eq, u8L_ofBytes, bytesL_ofBytes, bytesOf_ofBytes, ofBytes_plainL, ofBytes_length, AV.intOf, AV.isInt, fl, f7, f6, ii, hl]; omega))
          replace key := key (by
            (try simp only [kept_eq, bytesL_ofBytes, bytesOf_ofBytes, Option.getD_some, hr, f1, f2, f3, f4, f5, f6, f7, ii, k0, k1, k2, k3, k4, hz, zl, zr, z1, a2, a3, gl, gp, bp, AV.intOf])
            first
              | done
              | rfl
              | assumption
              | exact ofBytes_plainL _
              | exact u8L_ofBytes _
              | (simp [nbeq, nble, iltB_eq, ileB_eq, ieqB_eq, u8L_ofBytes, bytesL_ofBytes, bytesOf_ofBytes, ofBytes_plainL, ofBytes_length, AV.intOf, AV.isInt, fl, f7, f6, ii, hl]; done)
              | (simp [nbeq, nble, iltB_eq, ileB_eq, ieqB_eq, u8L_ofBytes, bytesL_ofBytes, bytesOf_ofBytes, ofBytes_plainL, ofBytes_length, AV.intOf, AV.isInt, fl, f7, f6, ii, hl]; omega))
          replace key := key (by
            (try simp only [kept_eq, bytesL_ofBytes, bytesOf_ofBytes, Option.getD_some, hr, f1, f2, f3, f4, f5, f6, f7, ii, k0, k1, k2, k3, k4, hz, zl, zr, z1, a2, a3, gl, gp, bp, AV.intOf])
            first
              | done
              | rfl
              | assumption
              | exact ofBytes_plainL _
              | exact u8L_ofBytes _
              | (simp [nbeq, nble, iltB_eq, ileB_eq, ieqB_eq, u8L_ofBytes, bytesL_ofBytes, bytesOf_ofBytes, ofBytes_plainL, ofBytes_length, AV.intOf, AV.isInt, fl, f7, f6, ii, hl]; done)
              | (simp [nbeq, nble, iltB_eq, ileB_eq, ieqB_eq, u8L_ofBytes, bytesL_ofBytes, bytesOf_ofBytes, ofBytes_plainL, ofBytes_length, AV.intOf, AV.isInt, fl, f7, f6, ii, hl]; omega))
          replace key := key (by
            (try simp only [kept_eq, bytesL_ofBytes, bytesOf_ofBytes, Option.getD_some, hr, f1, f2, f3, f4, f5, f6, f7, ii, k0, k1, k2, k3, k4, hz, zl, zr, z1, a2, a3, gl, gp, bp, AV.intOf])
            first
              | done
              | rfl
              | assumption
              | exact ofBytes_plainL _
              | exact u8L_ofBytes _
              | (simp [nbeq, nble, iltB_eq, ileB_eq, ieqB_eq, u8L_ofBytes, bytesL_ofBytes, bytesOf_ofBytes, ofBytes_plainL, ofBytes_length, AV.intOf, AV.isInt, fl, f7, f6, ii, hl]; done)
              | (simp [nbeq, nble, iltB_eq, ileB_eq, ieqB_eq, u8L_ofBytes, bytesL_ofBytes, bytesOf_ofBytes, ofBytes_plainL, ofBytes_length, AV.intOf, AV.isInt, fl, f7, f6, ii, hl]; omega))
          replace key := key (by
            (try simp only [kept_eq, bytesL_ofBytes, bytesOf_ofBytes, Option.getD_some, hr, f1, f2, f3, f4, f5, f6, f7, ii, k0, k1, k2, k3, k4, hz, zl, zr, z1, a2, a3, gl, gp, bp, AV.intOf])
            first
              | done
              | rfl
              | assumption
              | exact ofBytes_plainL _
              | exact u8L_ofBytes _
              | (simp [nbeq, nble, iltB_eq, ileB_eq, ieqB_eq, u8L_ofBytes, bytesL_ofBytes, bytesOf_ofBytes, ofBytes_plainL, ofBytes_length, AV.intOf, AV.isInt, fl, f7, f6, ii, hl]; done)
              | (simp [nbeq, nble, iltB_eq, ileB_eq, ieqB_eq, u8L_ofBytes, bytesL_ofBytes, bytesOf_ofBytes, ofBytes_plainL, ofBytes_length, AV.intOf, AV.isInt, fl, f7, f6, ii, hl]; omega))
          replace key := key (by
            (try simp only [kept_eq, bytesL_ofBytes, bytesOf_ofBytes, Option.getD_some, hr, f1, f2, f3, f4, f5, f6, f7, ii, k0, k1, k2, k3, k4, hz, zl, zr, z1, a2, a3, gl, gp, bp, AV.intOf])
            first
              | done
              | rfl
              | assumption
              | exact ofBytes_plainL _
              | exact u8L_ofBytes _
              | (simp [nbeq, nble, iltB_eq, ileB_eq, ieqB_eq, u8L_ofBytes, bytesL_ofBytes, bytesOf_ofBytes, ofBytes_plainL, ofBytes_length, AV.intOf, AV.isInt, fl, f7, f6, ii, hl]; done)
              | (simp [nbeq, nble, iltB_eq, ileB_eq, ieqB_eq, u8L_ofBytes, bytesL_ofBytes, bytesOf_ofBytes, ofBytes_plainL, ofBytes_length, AV.intOf, AV.isInt, fl, f7, f6, ii, hl]; omega))
          replace key := key (by
            (try simp only [kept_eq, bytesL_ofBytes, bytesOf_ofBytes, Option.getD_some, hr, f1, f2, f3, f4, f5, f6, f7, ii, k0, k1, k2, k3, k4, hz, zl, zr, z1, a2, a3, gl, gp, bp, AV.intOf])
            first
              | done
              | rfl
              | assumption
              | exact ofBytes_plainL _
              | exact u8L_ofBytes _
              | (simp [nbeq, nble, iltB_eq, ileB_eq, ieqB_eq, u8L_ofBytes, bytesL_ofBytes, bytesOf_ofBytes, ofBytes_plainL, ofBytes_length, AV.intOf, AV.isInt, fl, f7, f6, ii, hl]; done)
              | (simp [nbeq, nble, iltB_eq, ileB_eq, ieqB_eq, u8L_ofBytes, bytesL_ofBytes, bytesOf_ofBytes, ofBytes_plainL, ofBytes_length, AV.intOf, AV.isInt, fl, f7, f6, ii, hl]; omega))
          replace key := key (by
            (try simp only [kept_eq, bytesL_ofBytes, bytesOf_ofBytes, Option.getD_some, hr, f1, f2, f3, f4, f5, f6, f7, ii, k0, k1, k2, k3, k4, hz, zl, zr, z1, a2, a3, gl, gp, bp, AV.intOf])
            first
              | done
              | rfl
              | assumption
              | exact ofBytes_plainL _
              | exact u8L_ofBytes _
              | (simp [nbeq, nble, iltB_eq, ileB_eq, ieqB_eq, u8L_ofBytes, bytesL_ofBytes, bytesOf_ofBytes, ofBytes_plainL, ofBytes_length, AV.intOf, AV.isInt, fl, f7, f6, ii, hl]; done)
              | (simp [nbeq, nble, iltB_eq, ileB_eq, ieqB_eq, u8L_ofBytes, bytesL_ofBytes, bytesOf_ofBytes, ofBytes_plainL, ofBytes_length, AV.intOf, AV.isInt, fl, f7, f6, ii, hl]; omega))
          replace key := key (by
            (try simp only [kept_eq, bytesL_ofBytes, bytesOf_ofBytes, Option.getD_some, hr, f1, f2, f3, f4, f5, f6, f7, ii, k0, k1, k2, k3, k4, hz, zl, zr, z1, a2, a3, gl, gp, bp, AV.intOf])
            first
              | done
              | rfl
              | assumption
              | exact ofBytes_plainL _
              | exact u8L_ofBytes _
              | (simp [nbeq, nble, iltB_eq, ileB_eq, ieqB_eq, u8L_ofBytes, bytesL_ofBytes, bytesOf_ofBytes, ofBytes_plainL, ofBytes_length, AV.intOf, AV.isInt, fl, f7, f6, ii, hl]; done)
              | (simp [nbeq, nble, iltB_eq, ileB_eq, ieqB_eq, u8L_ofBytes, bytesL_ofBytes, bytesOf_ofBytes, ofBytes_plainL, ofBytes_length, AV.intOf, AV.isInt, fl, f7, f6, ii, hl]; omega))
          replace key := key (by
            (try simp only [kept_eq, bytesL_ofBytes, bytesOf_ofBytes, Option.getD_some, hr, f1, f2, f3, f4, f5, f6, f7, ii, k0, k1, k2, k3, k4, hz, zl, zr, z1, a2, a3, gl, gp, bp, AV.intOf])
            first
              | done
              | rfl
              | assumption
              | exact ofBytes_plainL _
              | exact u8L_ofBytes _
              | (simp [nbeq, nble, iltB_eq, ileB_eq, ieqB_eq, u8L_ofBytes, bytesL_ofBytes, bytesOf_ofBytes, ofBytes_plainL, ofBytes_length, AV.intOf, AV.isInt, fl, f7, f6, ii, hl]; done)
              | (simp [nbeq, nble, iltB_eq, ileB_eq, ieqB_eq, u8L_ofBytes, bytesL_ofBytes, bytesOf_ofBytes, ofBytes_plainL, ofBytes_length, AV.intOf, AV.isInt, fl, f7, f6, ii, hl]; omega))
          replace key := key (by
            (try simp only [kept_eq, bytesL_ofBytes, bytesOf_ofBytes, Option.getD_some, hr, f1, f2, f3, f4, f5, f6, f7, ii, k0, k1, k2, k3, k4, hz, zl, zr, z1, a2, a3, gl, gp, bp, AV.intOf])
            first
              | done
              | rfl
              | assumption
              | exact ofBytes_plainL _
              | exact u8L_ofBytes _
              | (simp [nbeq, nble, iltB_eq, ileB_eq, ieqB_eq, u8L_ofBytes, bytesL_ofBytes, bytesOf_ofBytes, ofBytes_plainL, ofBytes_length, AV.intOf, AV.isInt, fl, f7, f6, ii, hl]; done)
              | (simp [nbeq, nble, iltB_eq, ileB_eq, ieqB_eq, u8L_ofBytes, bytesL_ofBytes, bytesOf_ofBytes, ofBytes_plainL, ofBytes_length, AV.intOf, AV.isInt, fl, f7, f6, ii, hl]; omega))
          replace key := key (by
            (try simp only [kept_eq, bytesL_ofBytes, bytesOf_ofBytes, Option.getD_some, hr, f1, f2, f3, f4, f5, f6, f7, ii, k0, k1, k2, k3, k4, hz, zl, zr, z1, a2, a3, gl, gp, bp, AV.intOf])
            first
              | done
              | rfl
              | assumption
              | exact ofBytes_plainL _
              | exact u8L_ofBytes _
              | (simp [nbeq, nble, iltB_eq, ileB_eq, ieqB_eq, u8L_ofBytes, bytesL_ofBytes, bytesOf_ofBytes, ofBytes_plainL, ofBytes_length, AV.intOf, AV.isInt, fl, f7, f6, ii, hl]; done)
              | (simp [nbeq, nble, iltB_eq, ileB_eq, ieqB_eq, u8L_ofBytes, bytesL_ofBytes, bytesOf_ofBytes, ofBytes_plainL, ofBytes_length, AV.intOf, AV.isInt, fl, f7, f6, ii, hl]; omega))
          replace key := key (by
            (try simp only [kept_eq, bytesL_ofBytes, bytesOf_ofBytes, Option.getD_some, hr, f1, f2, f3, f4, f5, f6, f7, ii, k0, k1, k2, k3, k4, hz, zl, zr, z1, a2, a3, gl, gp, bp, AV.intOf])
            first
              | done
              | rfl
              | assumption
              | exact ofBytes_plainL _
              | exact u8L_ofBytes _
              | (simp [nbeq, nble, iltB_eq, ileB_eq, ieqB_eq, u8L_ofBytes, bytesL_ofBytes, bytesOf_ofBytes, ofBytes_plainL, ofBytes_length, AV.intOf, AV.isInt, fl, f7, f6, ii, hl]; done)
              | (simp [nbeq, nble, iltB_eq, ileB_eq, ieqB_eq, u8L_ofBytes, bytesL_ofBytes, bytesOf_ofBytes, ofBytes_plainL, ofBytes_length, AV.intOf, AV.isInt, fl, f7, f6, ii, hl]; omega))
          replace key := key (by
            (try simp only [kept_eq, bytesL_ofBytes, bytesOf_ofBytes, Option.getD_some, hr, f1, f2, f3, f4, f5, f6, f7, ii, k0, k1, k2, k3, k4, hz, zl, zr, z1, a2, a3, gl, gp, bp, AV.intOf])
            first
              | done
              | rfl
              | assumption
              | exact ofBytes_plainL _
              | exact u8L_ofBytes _
              | (simp [nbeq, nble, iltB_eq, ileB_eq, ieqB_eq, u8L_ofBytes, bytesL_ofBytes, bytesOf_ofBytes, ofBytes_plainL, ofBytes_length, AV.intOf, AV.isInt, fl, f7, f6, ii, hl]; done)
              | (simp [nbeq, nble, iltB_eq, ileB_eq, ieqB_eq, u8L_ofBytes, bytesL_ofBytes, bytesOf_ofBytes, ofBytes_plainL, ofBytes_length, AV.intOf, AV.isInt, fl, f7, f6, ii, hl]; omega))
          replace key := key (by
            (try simp only [kept_eq, bytesL_ofBytes, bytesOf_ofBytes, Option.getD_some, hr, f1, f2, f3, f4, f5, f6, f7, ii, k0, k1, k2, k3, k4, hz, zl, zr, z1, a2, a3, gl, gp, bp, AV.intOf])
            first
              | done
              | rfl
              | assumption
              | exact ofBytes_plainL _
              | exact u8L_ofBytes _
              | (simp [nbeq, nble, iltB_eq, ileB_eq, ieqB_eq, u8L_ofBytes, bytesL_ofBytes, bytesOf_ofBytes, ofBytes_plainL, ofBytes_length, AV.intOf, AV.isInt, fl, f7, f6, ii, hl]; done)
              | (simp [nbeq, nble, iltB_eq, ileB_eq, ieqB_eq, u8L_ofBytes, bytesL_ofBytes, bytesOf_ofBytes, ofBytes_plainL, ofBytes_length, AV.intOf, AV.isInt, fl, f7, f6, ii, hl]; omega))
          replace key := key (by
            (try simp only [kept_eq, bytesL_ofBytes, bytesOf_ofBytes, Option.getD_some, hr, f1, f2, f3, f4, f5, f6, f7, ii, k0, k1, k2, k3, k4, hz, zl, zr, z1, a2, a3, gl, gp, bp, AV.intOf])
            first
              | done
              | rfl
              | assumption
              | exact ofBytes_plainL _
              | exact u8L_ofBytes _
              | (simp [nbeq, nble, iltB_eq, ileB_eq, ieqB_eq, u8L_ofBytes, bytesL_ofBytes, bytesOf_ofBytes, ofBytes_plainL, ofBytes_length, AV.intOf, AV.isInt, fl, f7, f6, ii, hl]; done)
              | (simp [nbeq, nble, iltB_eq, ileB_eq, ieqB_eq, u8L_ofBytes, bytesL_ofBytes, bytesOf_ofBytes, ofBytes_plainL, ofBytes_length, AV.intOf, AV.isInt, fl, f7, f6, ii, hl]; omega))
          replace key := key (by
            (try simp only [kept_eq, bytesL_ofBytes, bytesOf_ofBytes, Option.getD_some, hr, f1, f2, f3, f4, f5, f6, f7, ii, k0, k1, k2, k3, k4, hz, zl, zr, z1, a2, a3, gl, gp, bp, AV.intOf])
            first
              | done
              | rfl
              | assumption
              | exact ofBytes_plainL _
              | exact u8L_ofBytes _
              | (simp [nbeq, nble, iltB_eq, ileB_eq, ieqB_eq, u8L_ofBytes, bytesL_ofBytes, bytesOf_ofBytes, ofBytes_plainL, ofBytes_length, AV.intOf, AV.isInt, fl, f7, f6, ii, hl]; done)
              | (simp [nbeq, nble, iltB_eq, ileB_eq, ieqB_eq, u8L_ofBytes, bytesL_ofBytes, bytesOf_ofBytes, ofBytes_plainL, ofBytes_length, AV.intOf, AV.isInt, fl, f7, f6, ii, hl]; omega))
          replace key := key (by
            (try simp only [kept_eq, bytesL_ofBytes, bytesOf_ofBytes, Option.getD_some, hr, f1, f2, f3, f4, f5, f6, f7, ii, k0, k1, k2, k3, k4, hz, zl, zr, z1, a2, a3, gl, gp, bp, AV.intOf])
            first
              | done
              | rfl
              | assumption
              | exact ofBytes_plainL _
              | exact u8L_ofBytes _
              | (simp [nbeq, nble, iltB_eq, ileB_eq, ieqB_eq, u8L_ofBytes, bytesL_ofBytes, bytesOf_ofBytes, ofBytes_plainL, ofBytes_length, AV.intOf, AV.isInt, fl, f7, f6, ii, hl]; done)
              | (simp [nbeq, nble, iltB_eq, ileB_eq, ieqB_eq, u8L_ofBytes, bytesL_ofBytes, bytesOf_ofBytes, ofBytes_plainL, ofBytes_length, AV.intOf, AV.isInt, fl, f7, f6, ii, hl]; omega))
          replace key := key (by
            (try simp only [kept_eq, bytesL_ofBytes, bytesOf_ofBytes, Option.getD_some, hr, f1, f2, f3, f4, f5, f6, f7, ii, k0, k1, k2, k3, k4, hz, zl, zr, z1, a2, a3, gl, gp, bp, AV.intOf])
            first
              | done
              | rfl
              | assumption
              | exact ofBytes_plainL _
              | exact u8L_ofBytes _
              | (simp [nbeq, nble, iltB_eq, ileB_eq, ieqB_eq, u8L_ofBytes, bytesL_ofBytes, bytesOf_ofBytes, ofBytes_plainL, ofBytes_length, AV.intOf, AV.isInt, fl, f7, f6, ii, hl]; done)
              | (simp [nbeq, nble, iltB_eq, ileB_eq, ieqB_eq, u8L_ofBytes, bytesL_ofBytes, bytesOf_ofBytes, ofBytes_plainL, ofBytes_length, AV.intOf, AV.isInt, fl, f7, f6, ii, hl]; omega))
          replace key := key (by
            (try simp only [kept_eq, bytesL_ofBytes, bytesOf_ofBytes, Option.getD_some, hr, f1, f2, f3, f4, f5, f6, f7, ii, k0, k1, k2, k3, k4, hz, zl, zr, z1, a2, a3, gl, gp, bp, AV.intOf])
            first
              | done
              | rfl
              | assumption
              | exact ofBytes_plainL _
              | exact u8L_ofBytes _
              | (simp [nbeq, nble, iltB_eq, ileB_eq, ieqB_eq, u8L_ofBytes, bytesL_ofBytes, bytesOf_ofBytes, ofBytes_plainL, ofBytes_length, AV.intOf, AV.isInt, fl, f7, f6, ii, hl]; done)
              | (simp [nbeq, nble, iltB_eq, ileB_eq, ieqB_eq, u8L_ofBytes, bytesL_ofBytes, bytesOf_ofBytes, ofBytes_plainL, ofBytes_length, AV.intOf, AV.isInt, fl, f7, f6, ii, hl]; omega))
          replace key := key (by
            (try simp only [kept_eq, bytesL_ofBytes, bytesOf_ofBytes, Option.getD_some, hr, f1, f2, f3, f4, f5, f6, f7, ii, k0, k1, k2, k3, k4, hz, zl, zr, z1, a2, a3, gl, gp, bp, AV.intOf])
            first
              | done
              | rfl
              | assumption
              | exact ofBytes_plainL _
              | exact u8L_ofBytes _
              | (simp [nbeq, nble, iltB_eq, ileB_eq, ieqB_eq, u8L_ofBytes, bytesL_ofBytes, bytesOf_ofBytes, ofBytes_plainL, ofBytes_length, AV.intOf, AV.isInt, fl, f7, f6, ii, hl]; done)
              | (simp [nbeq, nble, iltB_eq, ileB_eq, ieqB_eq, u8L_ofBytes, bytesL_ofBytes, bytesOf_ofBytes, ofBytes_plainL, ofBytes_length, AV.intOf, AV.isInt, fl, f7, f6, ii, hl]; omega))
          replace key := key (by
            (try simp only [kept_eq, bytesL_ofBytes, bytesOf_ofBytes, Option.getD_some, hr, f1, f2, f3, f4, f5, f6, f7, ii, k0, k1, k2, k3, k4, hz, zl, zr, z1, a2, a3, gl, gp, bp, AV.intOf])
            first
              | done
              | rfl
              | assumption
              | exact ofBytes_plainL _
              | exact u8L_ofBytes _
              | (simp [nbeq, nble, iltB_eq, ileB_eq, ieqB_eq, u8L_ofBytes, bytesL_ofBytes, bytesOf_ofBytes, ofBytes_plainL, ofBytes_length, AV.intOf, AV.isInt, fl, f7, f6, ii, hl]; done)
              | (simp [nbeq, nble, iltB_eq, ileB_eq, ieqB_eq, u8L_ofBytes, bytesL_ofBytes, bytesOf_ofBytes, ofBytes_plainL, ofBytes_length, AV.intOf, AV.isInt, fl, f7, f6, ii, hl]; omega))
          replace key := key (by
            (try simp only [kept_eq, bytesL_ofBytes, bytesOf_ofBytes, Option.getD_some, hr, f1, f2, f3, f4, f5, f6, f7, ii, k0, k1, k2, k3, k4, hz, zl, zr, z1, a2, a3, gl, gp, bp, AV.intOf])
            first
              | done
              | rfl
              | assumption
              | exact ofBytes_plainL _
              | exact u8L_ofBytes _
              | (simp [nbeq, nble, iltB_eq, ileB_eq, ieqB_eq, u8L_ofBytes, bytesL_ofBytes, bytesOf_ofBytes, ofBytes_plainL, ofBytes_length, AV.intOf, AV.isInt, fl, f7, f6, ii, hl]; done)
              | (simp [nbeq, nble, iltB_eq, ileB_eq, ieqB_eq, u8L_ofBytes, bytesL_ofBytes, bytesOf_ofBytes, ofBytes_plainL, ofBytes_length, AV.intOf, AV.isInt, fl, f7, f6, ii, hl]; omega))
          replace key := key (by
            (try simp only [kept_eq, bytesL_ofBytes, bytesOf_ofBytes, Option.getD_some, hr, f1, f2, f3, f4, f5, f6, f7, ii, k0, k1, k2, k3, k4, hz, zl, zr, z1, a2, a3, gl, gp, bp, AV.intOf])
            first
              | done
              | rfl
              | assumption
              | exact ofBytes_plainL _
              | exact u8L_ofBytes _
              | (simp [nbeq, nble, iltB_eq, ileB_eq, ieqB_eq, u8L_ofBytes, bytesL_ofBytes, bytesOf_ofBytes, ofBytes_plainL, ofBytes_length, AV.intOf, AV.isInt, fl, f7, f6, ii, hl]; done)
              | (simp [nbeq, nble, iltB_eq, ileB_eq, ieqB_eq, u8L_ofBytes, bytesL_ofBytes, bytesOf_ofBytes, ofBytes_plainL, ofBytes_length, AV.intOf, AV.isInt, fl, f7, f6, ii, hl]; omega))
          replace key := key (by
            (try simp only [kept_eq, bytesL_ofBytes, bytesOf_ofBytes, Option.getD_some, hr, f1, f2, f3, f4, f5, f6, f7, ii, k0, k1, k2, k3, k4, hz, zl, zr, z1, a2, a3, gl, gp, bp, AV.intOf])
            first
              | done
              | rfl
              | assumption
              | exact ofBytes_plainL _
              | exact u8L_ofBytes _
              | (simp [nbeq, nble, iltB_eq, ileB_eq, ieqB_eq, u8L_ofBytes, bytesL_ofBytes, bytesOf_ofBytes, ofBytes_plainL, ofBytes_length, AV.intOf, AV.isInt, fl, f7, f6, ii, hl]; done)
              | (simp [nbeq, nble, iltB_eq, ileB_eq, ieqB_eq, u8L_ofBytes, bytesL_ofBytes, bytesOf_ofBytes, ofBytes_plainL, ofBytes_length, AV.intOf, AV.isInt, fl, f7, f6, ii, hl]; omega))
          replace key := key (by
            (try simp only [kept_eq, bytesL_ofBytes, bytesOf_ofBytes, Option.getD_some, hr, f1, f2, f3, f4, f5, f6, f7, ii, k0, k1, k2, k3, k4, hz, zl, zr, z1, a2, a3, gl, gp, bp, AV.intOf])
            first
              | done
              | rfl
              | assumption
              | exact ofBytes_plainL _
              | exact u8L_ofBytes _
              | (simp [nbeq, nble, iltB_eq, ileB_eq, ieqB_eq, u8L_ofBytes, bytesL_ofBytes, bytesOf_ofBytes, ofBytes_plainL, ofBytes_length, AV.intOf, AV.isInt, fl, f7, f6, ii, hl]; done)
              | (simp [nbeq, nble, iltB_eq, ileB_eq, ieqB_eq, u8L_ofBytes, bytesL_ofBytes, bytesOf_ofBytes, ofBytes_plainL, ofBytes_length, AV.intOf, AV.isInt, fl, f7, f6, ii, hl]; omega))
          replace key := key (by
            (try simp only [kept_eq, bytesL_ofBytes, bytesOf_ofBytes, Option.getD_some, hr, f1, f2, f3, f4, f5, f6, f7, ii, k0, k1, k2, k3, k4, hz, zl, zr, z1, a2, a3, gl, gp, bp, AV.intOf])
            first
              | done
              | rfl
              | assumption
              | exact ofBytes_plainL _
              | exact u8L_ofBytes _
              | (simp [nbeq, nble, iltB_eq, ileB_eq, ieqB_eq, u8L_ofBytes, bytesL_ofBytes, bytesOf_ofBytes, ofBytes_plainL, ofBytes_length, AV.intOf, AV.isInt, fl, f7, f6, ii, hl]; done)
              | (simp [nbeq, nble, iltB_eq, ileB_eq, ieqB_eq, u8L_ofBytes, bytesL_ofBytes, bytesOf_ofBytes, ofBytes_plainL, ofBytes_length, AV.intOf, AV.isInt, fl, f7, f6, ii, hl]; omega))
          obtain ⟨h', h, _⟩ := key
          refine ⟨h', h.trans ?_⟩
          (try simp only [kept_eq, bytesL_ofBytes, bytesOf_ofBytes, Option.getD_some, hr, f1, f2, f3, f4, f5, f6, f7, ii, k0, k1, k2, k3, k4, hz, zl, zr, z1, a2, a3, gl, gp, bp, AV.intOf])
          first
            | done
            | rfl
            | (simp [fl, f7, f6, ii, hl]; done)
        | false =>
          have z1 := (bytesEq_nil hl).2
          have key := sc_r_n3 s c g a b.length (ofBytes b)
          replace key := key (by
            (try simp only [kept_eq, bytesL_ofBytes, bytesOf_ofBytes, Option.getD_some, hr, f1, f2, f3, f4, f5, f6, f7, ii, k0, k1, k2, k3, k4, hz, zl, zr, z1, a2, a3, gl, gp, bp, AV.intOf])
            first
              | done
              | rfl
              | assumption
              | exact ofBytes_plainL _
              | exact u8L_ofBytes _
              | (simp [nbeq, nble, iltB_eq, ileB_eq, ieqB_eq, u8L_ofBytes, bytesL_ofBytes, bytesOf_ofBytes, ofBytes_plainL, ofBytes_length, AV.intOf, AV.isInt, fl, f7, f6, ii, hl]; done)
              | (simp [nbeq, nble, iltB_eq, ileB_eq, ieqB_eq, u8L_ofBytes, bytesL_ofBytes, bytesOf_ofBytes, ofBytes_plainL, ofBytes_length, AV.intOf, AV.isInt, fl, f7, f6, ii, hl]; omega))
          replace key := key (by
            (try simp only [kept_eq, bytesL_ofBytes, bytesOf_ofBytes, Option.getD_some, hr, f1, f2, f3, f4, f5, f6, f7, ii, k0, k1, k2, k3, k4, hz, zl, zr, z1, a2, a3, gl, gp, bp, AV.intOf])
            first
              | done
              | rfl
              | assumption
              | exact ofBytes_plainL _
              | exact u8L_ofBytes _
              | (simp [nbeq, nble, iltB_eq, ileB_eq, ieqB_eq, u8L_ofBytes, bytesL_ofBytes, bytesOf_ofBytes, ofBytes_plainL, ofBytes_length, AV.intOf, AV.isInt, fl, f7, f6, ii, hl]; done)
              | (simp [nbeq, nble, iltB_eq, ileB_eq, ieqB_eq, u8L_ofBytes, bytesL_ofBytes, bytesOf_ofBytes, ofBytes_plainL, ofBytes_length, AV.intOf, AV.isInt, fl, f7, f6, ii, hl]; omega))
          replace key := key (by
            (try simp only [kept_eq, bytesL_ofBytes, bytesOf_ofBytes, Option.getD_some, hr, f1, f2, f3, f4, f5, f6, f7, ii, k0, k1, k2, k3, k4, hz, zl, zr, z1, a2, a3, gl, gp, bp, AV.intOf])
            first
              | done
              | rfl
              | assumption
              | exact ofBytes_plainL _
              | exact u8L_ofBytes _
              | (simp [nbeq, nble, iltB_eq, ileB_eq, ieqB_eq, u8L_ofBytes, bytesL_ofBytes, bytesOf_ofBytes, ofBytes_plainL, ofBytes_length, AV.intOf, AV.isInt, fl, f7, f6, ii, hl]; done)
              | (simp [nbeq, nble, iltB_eq, ileB_eq, ieqB_eq, u8L_ofBytes, bytesL_ofBytes, bytesOf_ofBytes, ofBytes_plainL, ofBytes_length, AV.intOf, AV.isInt, fl, f7, f6, ii, hl]; omega))
          replace key := key (by
            (try simp only [kept_eq, bytesL_ofBytes, bytesOf_ofBytes, Option.getD_some, hr, f1, f2, f3, f4, f5, f6, f7, ii, k0, k1, k2, k3, k4, hz, zl, zr, z1, a2, a3, gl, gp, bp, AV.intOf])
            first
              | done
              | rfl
              | assumption
              | exact ofBytes_plainL _
              | exact u8L_ofBytes _
              | (simp [nbeq, nble, iltB_eq, ileB_eq, ieqB_eq, u8L_ofBytes, bytesL_ofBytes, bytesOf_ofBytes, ofBytes_plainL, ofBytes_length, AV.intOf, AV.isInt, fl, f7, f6, ii, hl]; done)
              | (simp [nbeq, nble, iltB_eq, ileB_eq, ieqB_eq, u8L_ofBytes, bytesL_ofBytes, bytesOf_ofBytes, ofBytes_plainL, ofBytes_length, AV.intOf, AV.isInt, fl, f7, f6, ii, hl]; omega))
          replace key := key (by
            (try simp only [kept_eq, bytesL_ofBytes, bytesOf_ofBytes, Option.getD_some, hr, f1, f2, f3, f4, f5, f6, f7, ii, k0, k1, k2, k3, k4, hz, zl, zr, z1, a2, a3, gl, gp, bp, AV.intOf])
            first
              | done
              | rfl
              | assumption
              | exact ofBytes_plainL _
              | exact u8L_ofBytes _
              | (simp [nbeq, nble, iltB_eq, ileB_eq, ieqB_eq, u8L_ofBytes, bytesL_ofBytes, bytesOf_ofBytes, ofBytes_plainL, ofBytes_length, AV.intOf, AV.isInt, fl, f7, f6, ii, hl]; done)
              | (simp [nbeq, nble, iltB_eq, ileB_eq, ieqB_eq, u8L_ofBytes, bytesL_ofBytes, bytesOf_ofBytes, ofBytes_plainL, ofBytes_length, AV.intOf, AV.isInt, fl, f7, f6, ii, hl]; omega))
          replace key := key (by
            (try simp only [kept_eq, bytesL_ofBytes, bytesOf_ofBytes, Option.getD_some, hr, f1, f2, f3, f4, f5, f6, f7, ii, k0, k1, k2, k3, k4, hz, zl, zr, z1, a2, a3, gl, gp, bp, AV.intOf])
            first
              | done
              | rfl
              | assumption
              | exact ofBytes_plainL _
              | exact u8L_ofBytes _
              | (simp [nbeq, nble, iltB_eq, ileB_eq, ieqB_eq, u8L_ofBytes, bytesL_ofBytes, bytesOf_ofBytes, ofBytes_plainL, ofBytes_length, AV.intOf, AV.isInt, fl, f7, f6, ii, hl]; done)
              | (simp [nbeq, nble, iltB_eq, ileB_eq, ieqB_eq, u8L_ofBytes, bytesL_ofBytes, bytesOf_ofBytes, ofBytes_plainL, ofBytes_length, AV.intOf, AV.isInt, fl, f7, f6, ii, hl]; omega))
          replace key := key (by
            (try simp only [kept_eq, bytesL_ofBytes, bytesOf_ofBytes, Option.getD_some, hr, f1, f2, f3, f4, f5, f6, f7, ii, k0, k1, k2, k3, k4, hz, zl, zr, z1, a2, a3, gl, gp, bp, AV.intOf])
            first
              | done
              | rfl
              | assumption
              | exact ofBytes_plainL _
              | exact u8L_ofBytes _
              | (simp [nbeq, nble, iltB_eq, ileB_eq, ieqB_eq, u8L_ofBytes, bytesL_ofBytes, bytesOf_ofBytes, ofBytes_plainL, ofBytes_length, AV.intOf, AV.isInt, fl, f7, f6, ii, hl]; done)
              | (simp [nbeq, nble, iltB_eq, ileB_eq, ieqB_eq, u8L_ofBytes, bytesL_ofBytes, bytesOf_ofBytes, ofBytes_plainL, ofBytes_length, AV.intOf, AV.isInt, fl, f7, f6, ii, hl]; omega))
          replace key := key (by
            (try simp only [kept_eq, bytesL_ofBytes, bytesOf_ofBytes, Option.getD_some, hr, f1, f2, f3, f4, f5, f6, f7, ii, k0, k1, k2, k3, k4, hz, zl, zr, z1, a2, a3, gl, gp, bp, AV.intOf])
            first
              | done
              | rfl
              | assumption
              | exact ofBytes_plainL _
              | exact u8L_ofBytes _
              | (simp [nbeq, nble, iltB_eq, ileB_eq, ieqB_eq, u8L_ofBytes, bytesL_ofBytes, bytesOf_ofBytes, ofBytes_plainL, ofBytes_length, AV.intOf, AV.isInt, fl, f7, f6, ii, hl]; done)
              | (simp [nbeq, nble, iltB_eq, ileB_eq, ieqB_eq, u8L_ofBytes, bytesL_ofBytes, bytesOf_ofBytes, ofBytes_plainL, ofBytes_length, AV.intOf, AV.isInt, fl, f7, f6, ii, hl]; omega))
          replace key := key (by
            (try simp only [kept_eq, bytesL_ofBytes, bytesOf_ofBytes, Option.getD_some, hr, f1, f2, f3, f4, f5, f6, f7, ii, k0, k1, k2, k3, k4, hz, zl, zr, z1, a2, a3, gl, gp, bp, AV.intOf])
            first
              | done
              | rfl
              | assumption
              | exact ofBytes_plainL _
              | exact u8L_ofBytes _
              | (simp [nbeq, nble, iltB_eq, ileB_eq, ieqB_eq, u8L_ofBytes, bytesL_ofBytes, bytesOf_ofBytes, ofBytes_plainL, ofBytes_length, AV.intOf, AV.isInt, fl, f7, f6, ii, hl]; done)
              | (simp [nbeq, nble, iltB_eq, ileB_eq, ieqB_eq, u8L_ofBytes, bytesL_ofBytes, bytesOf_ofBytes, ofBytes_plainL, ofBytes_length, AV.intOf, AV.isInt, fl, f7, f6, ii, hl]; omega))
          replace key := key (by
            (try simp only [kept_eq, bytesL_ofBytes, bytesOf_ofBytes, Option.getD_some, hr, f1, f2, f3, f4, f5, f6, f7, ii, k0, k1, k2, k3, k4, hz, zl, zr, z1, a2, a3, gl, gp, bp, AV.intOf])
            first
              | done
              | rfl
              | assumption
              | exact ofBytes_plainL _
              | exact u8L_ofBytes _
              | (simp [nbeq, nble, iltB_eq, ileB_eq, ieqB_eq, u8L_ofBytes, bytesL_ofBytes, bytesOf_ofBytes, ofBytes_plainL, ofBytes_length, AV.intOf, AV.isInt, fl, f7, f6, ii, hl]; done)
              | (simp [nbeq, nble, iltB_eq, ileB_eq, ieqB_eq, u8L_ofBytes, bytesL_ofBytes, bytesOf_ofBytes, ofBytes_plainL, ofBytes_length, AV.intOf, AV.isInt, fl, f7, f6, ii, hl]; omega))
          replace key := key (by
            (try simp only [kept_eq, bytesL_ofBytes, bytesOf_ofBytes, Option.getD_some, hr, f1, f2, f3, f4, f5, f6, f7, ii, k0, k1, k2, k3, k4, hz, zl, zr, z1, a2, a3, gl, gp, bp, AV.intOf])
            first
              | done
              | rfl
              | assumption
              | exact ofBytes_plainL _
              | exact u8L_ofBytes _
              | (simp [nbeq, nble, iltB_eq, ileB_eq, ieqB_eq, u8L_ofBytes, bytesL_ofBytes, bytesOf_ofBytes, ofBytes_plainL, ofBytes_length, AV.intOf, AV.isInt, fl, f7, f6, ii, hl]; done)
              | (simp [nbeq, nble, iltB_eq, ileB_eq, ieqB_eq, u8L_ofBytes, bytesL_ofBytes, bytesOf_ofBytes, ofBytes_plainL, ofBytes_length, AV.intOf, AV.isInt, fl, f7, f6, ii, hl]; omega))
          replace key := key (by
            (try simp only [kept_eq, bytesL_ofBytes, bytesOf_ofBytes, Option.getD_some, hr, f1, f2, f3, f4, f5, f6, f7, ii, k0, k1, k2, k3, k4, hz, zl, zr, z1, a2, a3, gl, gp, bp, AV.intOf])
            first
              | done
              | rfl
              | assumption
              | exact ofBytes_plainL _
              | exact u8L_ofBytes _
              | (simp [nbeq, nble, iltB_eq, ileB_eq, ieqB_eq, u8L_ofBytes, bytesL_ofBytes, bytesOf_ofBytes, ofBytes_plainL, ofBytes_length, AV.intOf, AV.isInt, fl, f7, f6, ii, hl]; done)
              | (simp [nbeq, nble, iltB_eq, ileB_eq, ieqB_eq, u8L_ofBytes, bytesL_ofBytes, bytesOf_ofBytes, ofBytes_plainL, ofBytes_length, AV.intOf, AV.isInt, fl, f7, f6, ii, hl]; omega))
          replace key := key (by
            (try simp only [kept_eq, bytesL_ofBytes, bytesOf_ofBytes, Option.getD_some, hr, f1, f2, f3, f4, f5, f6, f7, ii, k0, k1, k2, k3, k4, hz, zl, zr, z1, a2, a3, gl, gp, bp, AV.intOf])
            first
              | done
              | rfl
              | assumption
              | exact ofBytes_plainL _
              | exact u8L_ofBytes _
              | (simp [nbeq, nble, iltB_eq, ileB_eq, ieqB_eq, u8L_ofBytes, bytesL_ofBytes, bytesOf_ofBytes, ofBytes_plainL, ofBytes_length, AV.intOf, AV.isInt, fl, f7, f6, ii, hl]; done)
              | (simp [nbeq, nble, iltB_eq, ileB_eq, ieqB_eq, u8L_ofBytes, bytesL_ofBytes, bytesOf_ofBytes, ofBytes_plainL, ofBytes_length, AV.intOf, AV.isInt, fl, f7, f6, ii, hl]; omega))
          replace key := key (by
            (try simp only [kept_eq, bytesL_ofBytes, bytesOf_ofBytes, Option.getD_some, hr, f1, f2, f3, f4, f5, f6, f7, ii, k0, k1, k2, k3, k4, hz, zl, zr, z1, a2, a3, gl, gp, bp, AV.intOf])
            first
              | done
              | rfl
              | assumption
              | exact ofBytes_plainL _
              | exact u8L_ofBytes _
              | (simp [nbeq, nble, iltB_eq, ileB_eq, ieqB_eq, u8L_ofBytes, bytesL_ofBytes, bytesOf_ofBytes, ofBytes_plainL, ofBytes_length, AV.intOf, AV.isInt, fl, f7, f6, ii, hl]; done)
              | (simp [nbeq, nble, iltB_eq, ileB_eq, ieqB_eq, u8L_ofBytes, bytesL_ofBytes, bytesOf_ofBytes, ofBytes_plainL, ofBytes_length, AV.intOf, AV.isInt, fl, f7, f6, ii, hl]; omega))
          replace key := key (by
            (try simp only [kept_eq, bytesL_ofBytes, bytesOf_ofBytes, Option.getD_some, hr, f1, f2, f3, f4, f5, f6, f7, ii, k0, k1, k2, k3, k4, hz, zl, zr, z1, a2, a3, gl, gp, bp, AV.intOf])
            first
              | done
              | rfl
              | assumption
              | exact ofBytes_plainL _
              | exact u8L_ofBytes _
              | (simp [nbeq, nble, iltB_eq, ileB_eq, ieqB_eq, u8L_ofBytes, bytesL_ofBytes, bytesOf_ofBytes, ofBytes_plainL, ofBytes_length, AV.intOf, AV.isInt, fl, f7, f6, ii, hl]; done)
              | (simp [nbeq, nble, iltB_eq, ileB_eq, ieqB_eq, u8L_ofBytes, bytesL_ofBytes, bytesOf_ofBytes, ofBytes_plainL, ofBytes_length, AV.intOf, AV.isInt, fl, f7, f6, ii, hl]; omega))
          replace key := key (by
            (try simp only [kept_eq, bytesL_ofBytes, bytesOf_ofBytes, Option.getD_some, hr, f1, f2, f3, f4, f5, f6, f7, ii, k0, k1, k2, k3, k4, hz, zl, zr, z1, a2, a3, gl, gp, bp, AV.intOf])
            first
              | done
              | rfl
              | assumption
              | exact ofBytes_plainL _
              | exact u8L_ofBytes _
              | (simp [nbeq, nble, iltB_eq, ileB_eq, ieqB_eq, u8L_ofBytes, bytesL_ofBytes, bytesOf_ofBytes, ofBytes_plainL, ofBytes_length, AV.intOf, AV.isInt, fl, f7, f6, ii, hl]; done)
              | (simp [nbeq, nble, iltB_eq, ileB_eq, ieqB_eq, u8L_ofBytes, bytesL_ofBytes, bytesOf_ofBytes, ofBytes_plainL, ofBytes_length, AV.intOf, AV.isInt, fl, f7, f6, ii, hl]; omega))
          replace key := key (by
            (try simp only [kept_eq, bytesL_ofBytes, bytesOf_ofBytes, Option.getD_some, hr, f1, f2, f3, f4, f5, f6, f7, ii, k0, k1, k2, k3, k4, hz, zl, zr, z1, a2, a3, gl, gp, bp, AV.intOf])
            first
              | done
              | rfl
              | assumption
              | exact ofBytes_plainL _
              | exact u8L_ofBytes _
              | (simp [nbeq, nble, iltB_eq, ileB_eq, ieqB_eq, u8L_ofBytes, bytesL_ofBytes, bytesOf_ofBytes, ofBytes_plainL, ofBytes_length, AV.intOf, AV.isInt, fl, f7, f6, ii, hl]; done)
              | (simp [nbeq, nble, iltB_eq, ileB_eq, ieqB_eq, u8L_ofBytes, bytesL_ofBytes, bytesOf_ofBytes, ofBytes_plainL, ofBytes_length, AV.intOf, AV.isInt, fl, f7, f6, ii, hl]; omega))
          replace key := key (by
            (try simp only [kept_eq, bytesL_ofBytes, bytesOf_ofBytes, Option.getD_some, hr, f1, f2, f3, f4, f5, f6, f7, ii, k0, k1, k2, k3, k4, hz, zl, zr, z1, a2, a3, gl, gp, bp, AV.intOf])
            first
              | done
              | rfl
              | assumption
              | exact ofBytes_plainL _
              | exact u8L_ofBytes _
              | (simp [nbeq, nble, iltB_eq, ileB_eq, ieqB_eq, u8L_ofBytes, bytesL_ofBytes, bytesOf_ofBytes, ofBytes_plainL, ofBytes_length, AV.intOf, AV.isInt, fl, f7, f6, ii, hl]; done)
              | (simp [nbeq, nble, iltB_eq, ileB_eq, ieqB_eq, u8L_ofBytes, bytesL_ofBytes, bytesOf_ofBytes, ofBytes_plainL, ofBytes_length, AV.intOf, AV.isInt, fl, f7, f6, ii, hl]; omega))
          replace key := key (by
            (try simp only [kept_eq, bytesL_ofBytes, bytesOf_ofBytes, Option.getD_some, hr, f1, f2, f3, f4, f5, f6, f7, ii, k0, k1, k2, k3, k4, hz, zl, zr, z1, a2, a3, gl, gp, bp, AV.intOf])
            first
              | done
              | rfl
              | assumption
              | exact ofBytes_plainL _
              | exact u8L_ofBytes _
              | (simp [nbeq, nble, iltB_eq, ileB_eq, ieqB_eq, u8L_ofBytes, bytesL_ofBytes, bytesOf_ofBytes, ofBytes_plainL, ofBytes_length, AV.intOf, AV.isInt, fl, f7, f6, ii, hl]; done)
              | (simp [nbeq, nble, iltB_eq, ileB_eq, ieqB_eq, u8L_ofBytes, bytesL_ofBytes, bytesOf_ofBytes, ofBytes_plainL, ofBytes_length, AV.intOf, AV.isInt, fl, f7, f6, ii, hl]; omega))
          replace key := key (by
            (try simp only [kept_eq, bytesL_ofBytes, bytesOf_ofBytes, Option.getD_some, hr, f1, f2, f3, f4, f5, f6, f7, ii, k0, k1, k2, k3, k4, hz, zl, zr, z1, a2, a3, gl, gp, bp, AV.intOf])
            first
              | done
              | rfl
              | assumption
              | exact ofBytes_plainL _
              | exact u8L_ofBytes _
              | (simp [nbeq, nble, iltB_eq, ileB_eq, ieqB_eq, u8L_ofBytes, bytesL_ofBytes, bytesOf_ofBytes, ofBytes_plainL, ofBytes_length, AV.intOf, AV.isInt, fl, f7, f6, ii, hl]; done)
              | (simp [nbeq, nble, iltB_eq, ileB_eq, ieqB_eq, u8L_ofBytes, bytesL_ofBytes, bytesOf_ofBytes, ofBytes_plainL, ofBytes_length, AV.intOf, AV.isInt, fl, f7, f6, ii, hl]; omega))
          replace key := key (by
            (try simp only [kept_eq, bytesL_ofBytes, bytesOf_ofBytes, Option.getD_some, hr, f1, f2, f3, f4, f5, f6, f7, ii, k0, k1, k2, k3, k4, hz, zl, zr, z1, a2, a3, gl, gp, bp, AV.intOf])
            first
              | done
              | rfl
              | assumption
              | exact ofBytes_plainL _
              | exact u8L_ofBytes _
              | (simp [nbeq, nble, iltB_eq, ileB_eq, ieqB_eq, u8L_ofBytes, bytesL_ofBytes, bytesOf_ofBytes, ofBytes_plainL, ofBytes_length, AV.intOf, AV.isInt, fl, f7, f6, ii, hl]; done)
              | (simp [nbeq, nble, iltB_eq, ileB_eq, ieqB_eq, u8L_ofBytes, bytesL_ofBytes, bytesOf_ofBytes, ofBytes_plainL, ofBytes_length, AV.intOf, AV.isInt, fl, f7, f6, ii, hl]; omega))
          replace key := key (by
            (try simp only [kept_eq, bytesL_ofBytes, bytesOf_ofBytes, Option.getD_some, hr, f1, f2, f3, f4, f5, f6, f7, ii, k0, k1, k2, k3, k4, hz, zl, zr, z1, a2, a3, gl, gp, bp, AV.intOf])
            first
              | done
              | rfl
              | assumption
              | exact ofBytes_plainL _
              | exact u8L_ofBytes _
              | (simp [nbeq, nble, iltB_eq, ileB_eq, ieqB_eq, u8L_ofBytes, bytesL_ofBytes, bytesOf_ofBytes, ofBytes_plainL, ofBytes_length, AV.intOf, AV.isInt, fl, f7, f6, ii, hl]; done)
              | (simp [nbeq, nble, iltB_eq, ileB_eq, ieqB_eq, u8L_ofBytes, bytesL_ofBytes, bytesOf_ofBytes, ofBytes_plainL, ofBytes_length, AV.intOf, AV.isInt, fl, f7, f6, ii, hl]; omega))
          replace key := key (by
            (try simp only [kept_eq, bytesL_ofBytes, bytesOf_ofBytes, Option.getD_some, hr, f1, f2, f3, f4, f5, f6, f7, ii, k0, k1, k2, k3, k4, hz, zl, zr, z1, a2, a3, gl, gp, bp, AV.intOf])
            first
              | done
              | rfl
              | assumption
              | exact ofBytes_plainL _
              | exact u8L_ofBytes _
              | (simp [nbeq, nble, iltB_eq, ileB_eq, ieqB_eq, u8L_ofBytes, bytesL_ofBytes, bytesOf_ofBytes, ofBytes_plainL, ofBytes_length, AV.intOf, AV.isInt, fl, f7, f6, ii, hl]; done)
              | (simp [nbeq, nble, iltB_eq, ileB_eq, ieqB_eq, u8L_ofBytes, bytesL_ofBytes, bytesOf_ofBytes, ofBytes_plainL, ofBytes_length, AV.intOf, AV.isInt, fl, f7, f6, ii, hl]; omega))
          replace key := key (by
            (try simp only [kept_eq, bytesL_ofBytes, bytesOf_ofBytes, Option.getD_some, hr, f1, f2, f3, f4, f5, f6, f7, ii, k0, k1, k2, k3, k4, hz, zl, zr, z1, a2, a3, gl, gp, bp, AV.intOf])
            first
              | done
              | rfl
              | assumption
              | exact ofBytes_plainL _
              | exact u8L_ofBytes _
              | (simp [nbeq, nble, iltB_eq, ileB_eq, ieqB_eq, u8L_ofBytes, bytesL_ofBytes, bytesOf_ofBytes, ofBytes_plainL, ofBytes_length, AV.intOf, AV.isInt, fl, f7, f6, ii, hl]; done)
              | (simp [nbeq, nble, iltB_eq, ileB_eq, ieqB_eq, u8L_ofBytes, bytesL_ofBytes, bytesOf_ofBytes, ofBytes_plainL, ofBytes_length, AV.intOf, AV.isInt, fl, f7, f6, ii, hl]; omega))
          replace key := key (by
            (try simp only [kept_eq, bytesL_ofBytes, bytesOf_ofBytes, Option.getD_some, hr, f1, f2, f3, f4, f5, f6, f7, ii, k0, k1, k2, k3, k4, hz, zl, zr, z1, a2, a3, gl, gp, bp, AV.intOf])
            first
              | done
              | rfl
              | assumption
              | exact ofBytes_plainL _
              | exact u8L_ofBytes _
              | (simp [nbeq, nble, iltB_eq, ileB_eq, ieqB_eq, u8L_ofBytes, bytesL_ofBytes, bytesOf_ofBytes, ofBytes_plainL, ofBytes_length, AV.intOf, AV.isInt, fl, f7, f6, ii, hl]; done)
              | (simp [nbeq, nble, iltB_eq, ileB_eq, ieqB_eq, u8L_ofBytes, bytesL_ofBytes, bytesOf_ofBytes, ofBytes_plainL, ofBytes_length, AV.intOf, AV.isInt, fl, f7, f6, ii, hl]; omega))
          replace key := key (by
            (try simp only [kept_eq, bytesL_ofBytes, bytesOf_ofBytes, Option.getD_some, hr, f1, f2, f3, f4, f5, f6, f7, ii, k0, k1, k2, k3, k4, hz, zl, zr, z1, a2, a3, gl, gp, bp, AV.intOf])
            first
              | done
              | rfl
              | assumption
              | exact ofBytes_plainL _
              | exact u8L_ofBytes _
              | (simp [nbeq, nble, iltB_eq, ileB_eq, ieqB_eq, u8L_ofBytes, bytesL_ofBytes, bytesOf_ofBytes, ofBytes_plainL, ofBytes_length, AV.intOf, AV.isInt, fl, f7, f6, ii, hl]; done)
              | (simp [nbeq, nble, iltB_eq, ileB_eq, ieqB_eq, u8L_ofBytes, bytesL_ofBytes, bytesOf_ofBytes, ofBytes_plainL, ofBytes_length, AV.intOf, AV.isInt, fl, f7, f6, ii, hl]; omega))
          replace key := key (by
            (try simp only [kept_eq, bytesL_ofBytes, bytesOf_ofBytes, Option.getD_some, hr, f1, f2, f3, f4, f5, f6, f7, ii, k0, k1, k2, k3, k4, hz, zl, zr, z1, a2, a3, gl, gp, bp, AV.intOf])
            first
              | done
              | rfl
              | assumption
              | exact ofBytes_plainL _
              | exact u8L_ofBytes _
              | (simp [nbeq, nble, iltB_eq, ileB_eq, ieqB_eq, u8L_ofBytes, bytesL_ofBytes, bytesOf_ofBytes, ofBytes_plainL, ofBytes_length, AV.intOf, AV.isInt, fl, f7, f6, ii, hl]; done)
              | (simp [nbeq, nble, iltB_eq, ileB_eq, ieqB_eq, u8L_ofBytes, bytesL_ofBytes, bytesOf_ofBytes, ofBytes_plainL, ofBytes_length, AV.intOf, AV.isInt, fl, f7, f6, ii, hl]; omega))
          replace key := key (by
            (try simp only [kept_eq, bytesL_ofBytes, bytesOf_ofBytes, Option.getD_some, hr, f1, f2, f3, f4, f5, f6, f7, ii, k0, k1, k2, k3, k4, hz, zl, zr, z1, a2, a3, gl, gp, bp, AV.intOf])
            first
              | done
              | rfl
              | assumption
              | exact ofBytes_plainL _
              | exact u8L_ofBytes _
              | (simp [nbeq, nble, iltB_eq, ileB_eq, ieqB_eq, u8L_ofBytes, bytesL_ofBytes, bytesOf_ofBytes, ofBytes_plainL, ofBytes_length, AV.intOf, AV.isInt, fl, f7, f6, ii, hl]; done)
              | (simp [nbeq, nble, iltB_eq, ileB_eq, ieqB_eq, u8L_ofBytes, bytesL_ofBytes, bytesOf_ofBytes, ofBytes_plainL, ofBytes_length, AV.intOf, AV.isInt, fl, f7, f6, ii, hl]; omega))
          replace key := key (by
            (try simp only [kept_eq, bytesL_ofBytes, bytesOf_ofBytes, Option.getD_some, hr, f1, f2, f3, f4, f5, f6, f7, ii, k0, k1, k2, k3, k4, hz, zl, zr, z1, a2, a3, gl, gp, bp, AV.intOf])
            first
              | done
              | rfl
              | assumption
              | exact ofBytes_plainL _
              | exact u8L_ofBytes _
              | (simp [nbeq, nble, iltB_eq, ileB_eq, ieqB_eq, u8L_ofBytes, bytesL_ofBytes, bytesOf_ofBytes, ofBytes_plainL, ofBytes_length, AV.intOf, AV.isInt, fl, f7, f6, ii, hl]; done)
              | (simp [nbeq, nble, iltB_eq, ileB_eq, ieqB_eq, u8L_ofBytes, bytesL_ofBytes, bytesOf_ofBytes, ofBytes_plainL, ofBytes_length, AV.intOf, AV.isInt, fl, f7, f6, ii, hl]; omega))
          replace key := key (by
            (try simp only [kept_eq, bytesL_ofBytes, bytesOf_ofBytes, Option.getD_some, hr, f1, f2, f3, f4, f5, f6, f7, ii, k0, k1, k2, k3, k4, hz, zl, zr, z1, a2, a3, gl, gp, bp, AV.intOf])
            first
              | done
              | rfl
              | assumption
              | exact ofBytes_plainL _
              | exact u8L_ofBytes _
              | (simp [nbeq, nble, iltB_eq, ileB_eq, ieqB_eq, u8L_ofBytes, bytesL_ofBytes, bytesOf_ofBytes, ofBytes_plainL, ofBytes_length, AV.intOf, AV.isInt, fl, f7, f6, ii, hl]; done)
              | (simp [nbeq, nble, iltB_eq, ileB_eq, ieqB_eq, u8L_ofBytes, bytesL_ofBytes, bytesOf_ofBytes, ofBytes_plainL, ofBytes_length, AV.intOf, AV.isInt, fl, f7, f6, ii, hl]; omega))
          replace key := key (by
            (try simp only [kept_eq, bytesL_ofBytes, bytesOf_ofBytes, Option.getD_some, hr, f1, f2, f3, f4, f5, f6, f7, ii, k0, k1, k2, k3, k4, hz, zl, zr, z1, a2, a3, gl, gp, bp, AV.intOf])
            first
              | done
              | rfl
              | assumption
              | exact ofBytes_plainL _
              | exact u8L_ofBytes _
              | (simp [nbeq, nble, iltB_eq, ileB_eq, ieqB_eq, u8L_ofBytes, bytesL_ofBytes, bytesOf_ofBytes, ofBytes_plainL, ofBytes_length, AV.intOf, AV.isInt, fl, f7, f6, ii, hl]; done)
              | (simp [nbeq, nble, iltB_eq, ileB_eq, ieqB_eq, u8L_ofBytes, bytesL_ofBytes, bytesOf_ofBytes, ofBytes_plainL, ofBytes_length, AV.intOf, AV.isInt, fl, f7, f6, ii, hl]; omega))
          obtain ⟨h', h, _⟩ := key
          refine ⟨h', h.trans ?_⟩
          (try simp only [kept_eq, bytesL_ofBytes, bytesOf_ofBytes, Option.getD_some, hr, f1, f2, f3, f4, f5, f6, f7, ii, k0, k1, k2, k3, k4, hz, zl, zr, z1, a2, a3, gl, gp, bp, AV.intOf])
          first
            | done
            | rfl
            | (simp [fl, f7, f6, ii, hl]; done)
    | true =>
      cases hz : isCB (padB 512 (b.take 512)) with
      | true =>
        have z1 := commitB_of hz
        have zr : rightC (byteI (padB 512 (b.take 512)) 2) (byteI (padB 512 (b.take 512)) 3) = true := by
          have hz2 := hz
          unfold isCB at hz2
          simp only [Bool.and_eq_true] at hz2
          exact hz2.1.2
        have key := sc_r_wy s c g a b.length (ofBytes b)
        replace key := key (by
          (try simp only [kept_eq, bytesL_ofBytes, bytesOf_ofBytes, Option.getD_some, hr, f1, f2, f3, f4, f5, f6, f7, ii, k0, k1, k2, k3, k4, hz, zr, z1, m1, gl, gp, bp, AV.intOf])
          first
            | done
            | rfl
            | assumption
            | exact ofBytes_plainL _
            | exact u8L_ofBytes _
            | (simp [nbeq, nble, iltB_eq, ileB_eq, ieqB_eq, u8L_ofBytes, bytesL_ofBytes, bytesOf_ofBytes, ofBytes_plainL, ofBytes_length, AV.intOf, AV.isInt, fl, f7, f6, ii, hM]; done)
            | (simp [nbeq, nble, iltB_eq, ileB_eq, ieqB_eq, u8L_ofBytes, bytesL_ofBytes, bytesOf_ofBytes, ofBytes_plainL, ofBytes_length, AV.intOf, AV.isInt, fl, f7, f6, ii, hM]; omega))
        replace key := key (by
          (try simp only [kept_eq, bytesL_ofBytes, bytesOf_ofBytes, Option.getD_some, hr, f1, f2, f3, f4, f5, f6, f7, ii, k0, k1, k2, k3, k4, hz, zr, z1, m1, gl, gp, bp, AV.intOf])
          first
            | done
            | rfl
            | assumption
            | exact ofBytes_plainL _
            | exact u8L_ofBytes _
            | (simp [nbeq, nble, iltB_eq, ileB_eq, ieqB_eq, u8L_ofBytes, bytesL_ofBytes, bytesOf_ofBytes, ofBytes_plainL, ofBytes_length, AV.intOf, AV.isInt, fl, f7, f6, ii, hM]; done)
            | (simp [nbeq, nble, iltB_eq, ileB_eq, ieqB_eq, u8L_ofBytes, bytesL_ofBytes, bytesOf_ofBytes, ofBytes_plainL, ofBytes_length, AV.intOf, AV.isInt, fl, f7, f6, ii, hM]; omega))
        replace key := key (by
          (try simp only [kept_eq, bytesL_ofBytes, bytesOf_ofBytes, Option.getD_some, hr, f1, f2, f3, f4, f5, f6, f7, ii, k0, k1, k2, k3, k4, hz, zr, z1, m1, gl, gp, bp, AV.intOf])
          first
            | done
            | rfl
            | assumption
            | exact ofBytes_plainL _
            | exact u8L_ofBytes _
            | (simp [nbeq, nble, iltB_eq, ileB_eq, ieqB_eq, u8L_ofBytes, bytesL_ofBytes, bytesOf_ofBytes, ofBytes_plainL, ofBytes_length, AV.intOf, AV.isInt, fl, f7, f6, ii, hM]; done)
            | (simp [nbeq, nble, iltB_eq, ileB_eq, ieqB_eq, u8L_ofBytes, bytesL_ofBytes, bytesOf_ofBytes, ofBytes_plainL, ofBytes_length, AV.intOf, AV.isInt, fl, f7, f6, ii, hM]; omega))
        replace key := key (by
          (try simp only [kept_eq, bytesL_ofBytes, bytesOf_ofBytes, Option.getD_some, hr, f1, f2, f3, f4, f5, f6, f7, ii, k0, k1, k2, k3, k4, hz, zr, z1, m1, gl, gp, bp, AV.intOf])
          first
            | done
            | rfl
            | assumption
            | exact ofBytes_plainL _
            | exact u8L_ofBytes _
            | (simp [nbeq, nble, iltB_eq, ileB_eq, ieqB_eq, u8L_ofBytes, bytesL_ofBytes, bytesOf_ofBytes, ofBytes_plainL, ofBytes_length, AV.intOf, AV.isInt, fl, f7, f6, ii, hM]; done)
            | (simp [nbeq, nble, iltB_eq, ileB_eq, ieqB_eq, u8L_ofBytes, bytesL_ofBytes, bytesOf_ofBytes, ofBytes_plainL, ofBytes_length, AV.intOf, AV.isInt, fl, f7, f6, ii, hM]; omega))
        replace key := key (by
          (try simp only [kept_eq, bytesL_ofBytes, bytesOf_ofBytes, Option.getD_some, hr, f1, f2, f3, f4, f5, f6, f7, ii, k0, k1, k2, k3, k4, hz, zr, z1, m1, gl, gp, bp, AV.intOf])
          first
            | done
            | rfl
            | assumption
            | exact ofBytes_plainL _
            | exact u8L_ofBytes _
            | (simp [nbeq, nble, iltB_eq, ileB_eq, ieqB_eq, u8L_ofBytes, bytesL_ofBytes, bytesOf_ofBytes, ofBytes_plainL, ofBytes_length, AV.intOf, AV.isInt, fl, f7, f6, ii, hM]; done)
            | (simp [nbeq, nble, iltB_eq, ileB_eq, ieqB_eq, u8L_ofBytes, bytesL_ofBytes, bytesOf_ofBytes, ofBytes_plainL, ofBytes_length, AV.intOf, AV.isInt, fl, f7, f6, ii, hM]; omega))
        replace key := key (by
          (try simp only [kept_eq, bytesL_ofBytes, bytesOf_ofBytes, Option.getD_some, hr, f1, f2, f3, f4, f5, f6, f7, ii, k0, k1, k2, k3, k4, hz, zr, z1, m1, gl, gp, bp, AV.intOf])
          first
            | done
            | rfl
            | assumption
            | exact ofBytes_plainL _
            | exact u8L_ofBytes _
            | (simp [nbeq, nble, iltB_eq, ileB_eq, ieqB_eq, u8L_ofBytes, bytesL_ofBytes, bytesOf_ofBytes, ofBytes_plainL, ofBytes_length, AV.intOf, AV.isInt, fl, f7, f6, ii, hM]; done)
            | (simp [nbeq, nble, iltB_eq, ileB_eq, ieqB_eq, u8L_ofBytes, bytesL_ofBytes, bytesOf_ofBytes, ofBytes_plainL, ofBytes_length, AV.intOf, AV.isInt, fl, f7, f6, ii, hM]; omega))
        replace key := key (by
          (try simp only [kept_eq, bytesL_ofBytes, bytesOf_ofBytes, Option.getD_some, hr, f1, f2, f3, f4, f5, f6, f7, ii, k0, k1, k2, k3, k4, hz, zr, z1, m1, gl, gp, bp, AV.intOf])
          first
            | done
            | rfl
            | assumption
            | exact ofBytes_plainL _
            | exact u8L_ofBytes _
            | (simp [nbeq, nble, iltB_eq, ileB_eq, ieqB_eq, u8L_ofBytes, bytesL_ofBytes, bytesOf_ofBytes, ofBytes_plainL, ofBytes_length, AV.intOf, AV.isInt, fl, f7, f6, ii, hM]; done)
            | (simp [nbeq, nble, iltB_eq, ileB_eq, ieqB_eq, u8L_ofBytes, bytesL_ofBytes, bytesOf_ofBytes, ofBytes_plainL, ofBytes_length, AV.intOf, AV.isInt, fl, f7, f6, ii, hM]; omega))
        replace key := key (by
          (try simp only [kept_eq, bytesL_ofBytes, bytesOf_ofBytes, Option.getD_some, hr, f1, f2, f3, f4, f5, f6, f7, ii, k0, k1, k2, k3, k4, hz, zr, z1, m1, gl, gp, bp, AV.intOf])
          first
            | done
            | rfl
            | assumption
            | exact ofBytes_plainL _
            | exact u8L_ofBytes _
            | (simp [nbeq, nble, iltB_eq, ileB_eq, ieqB_eq, u8L_ofBytes, bytesL_ofBytes, bytesOf_ofBytes, ofBytes_plainL, ofBytes_length, AV.intOf, AV.isInt, fl, f7, f6, ii, hM]; done)
            | (simp [nbeq, nble, iltB_eq, ileB_eq, ieqB_eq, u8L_ofBytes, bytesL_ofBytes, bytesOf_ofBytes, ofBytes_plainL, ofBytes_length, AV.intOf, AV.isInt, fl, f7, f6, ii, hM]; omega))
        replace key := key (by
          (try simp only [kept_eq, bytesL_ofBytes, bytesOf_ofBytes, Option.getD_some, hr, f1, f2, f3, f4, f5, f6, f7, ii, k0, k1, k2, k3, k4, hz, zr, z1, m1, gl, gp, bp, AV.intOf])
          first
            | done
            | rfl
            | assumption
            | exact ofBytes_plainL _
            | exact u8L_ofBytes _
            | (simp [nbeq, nble, iltB_eq, ileB_eq, ieqB_eq, u8L_ofBytes, bytesL_ofBytes, bytesOf_ofBytes, ofBytes_plainL, ofBytes_length, AV.intOf, AV.isInt, fl, f7, f6, ii, hM]; done)
            | (simp [nbeq, nble, iltB_eq, ileB_eq, ieqB_eq, u8L_ofBytes, bytesL_ofBytes, bytesOf_ofBytes, ofBytes_plainL, ofBytes_length, AV.intOf, AV.isInt, fl, f7, f6, ii, hM]; omega))
        replace key := key (by
          (try simp only [kept_eq, bytesL_ofBytes, bytesOf_ofBytes, Option.getD_some, hr, f1, f2, f3, f4, f5, f6, f7, ii, k0, k1, k2, k3, k4, hz, zr, z1, m1, gl, gp, bp, AV.intOf])
          first
            | done
            | rfl
            | assumption
            | exact ofBytes_plainL _
            | exact u8L_ofBytes _
            | (simp [nbeq, nble, iltB_eq, ileB_eq, ieqB_eq, u8L_ofBytes, bytesL_ofBytes, bytesOf_ofBytes, ofBytes_plainL, ofBytes_length, AV.intOf, AV.isInt, fl, f7, f6, ii, hM]; done)
            | (simp [nbeq, nble, iltB_eq, ileB_eq, ieqB_eq, u8L_ofBytes, bytesL_ofBytes, bytesOf_ofBytes, ofBytes_plainL, ofBytes_length, AV.intOf, AV.isInt, fl, f7, f6, ii, hM]; omega))
        replace key := key (by
          (try simp only [kept_eq, bytesL_ofBytes, bytesOf_ofBytes, Option.getD_some, hr, f1, f2, f3, f4, f5, f6, f7, ii, k0, k1, k2, k3, k4, hz, zr, z1, m1, gl, gp, bp, AV.intOf])
          first
            | done
            | rfl
            | assumption
            | exact ofBytes_plainL _
            | exact u8L_ofBytes _
            | (simp [nbeq, nble, iltB_eq, ileB_eq, ieqB_eq, u8L_ofBytes, bytesL_ofBytes, bytesOf_ofBytes, ofBytes_plainL, ofBytes_length, AV.intOf, AV.isInt, fl, f7, f6, ii, hM]; done)
            | (simp [nbeq, nble, iltB_eq, ileB_eq, ieqB_eq, u8L_ofBytes, bytesL_ofBytes, bytesOf_ofBytes, ofBytes_plainL, ofBytes_length, AV.intOf, AV.isInt, fl, f7, f6, ii, hM]; omega))
        replace key := key (by
          (try simp only [kept_eq, bytesL_ofBytes, bytesOf_ofBytes, Option.getD_some, hr, f1, f2, f3, f4, f5, f6, f7, ii, k0, k1, k2, k3, k4, hz, zr, z1, m1, gl, gp, bp, AV.intOf])
          first
            | done
            | rfl
            | assumption
            | exact ofBytes_plainL _
            | exact u8L_ofBytes _
            | (simp [nbeq, nble, iltB_eq, ileB_eq, ieqB_eq, u8L_ofBytes, bytesL_ofBytes, bytesOf_ofBytes, ofBytes_plainL, ofBytes_length, AV.intOf, AV.isInt, fl, f7, f6, ii, hM]; done)
            | (simp [nbeq, nble, iltB_eq, ileB_eq, ieqB_eq, u8L_ofBytes, bytesL_ofBytes, bytesOf_ofBytes, ofBytes_plainL, ofBytes_length, AV.intOf, AV.isInt, fl, f7, f6, ii, hM]; omega))
        replace key := key (by
          (try simp only [kept_eq, bytesL_ofBytes, bytesOf_ofBytes, Option.getD_some, hr, f1, f2, f3, f4, f5, f6, f7, ii, k0, k1, k2, k3, k4, hz, zr, z1, m1, gl, gp, bp, AV.intOf])
          first
            | done
            | rfl
            | assumption
            | exact ofBytes_plainL _
            | exact u8L_ofBytes _
            | (simp [nbeq, nble, iltB_eq, ileB_eq, ieqB_eq, u8L_ofBytes, bytesL_ofBytes, bytesOf_ofBytes, ofBytes_plainL, ofBytes_length, AV.intOf, AV.isInt, fl, f7, f6, ii, hM]; done)
            | (simp [nbeq, nble, iltB_eq, ileB_eq, ieqB_eq, u8L_ofBytes, bytesL_ofBytes, bytesOf_ofBytes, ofBytes_plainL, ofBytes_length, AV.intOf, AV.isInt, fl, f7, f6, ii, hM]; omega))
        replace key := key (by
          (try simp only [kept_eq, bytesL_ofBytes, bytesOf_ofBytes, Option.getD_some, hr, f1, f2, f3, f4, f5, f6, f7, ii, k0, k1, k2, k3, k4, hz, zr, z1, m1, gl, gp, bp, AV.intOf])
          first
            | done
            | rfl
            | assumption
            | exact ofBytes_plainL _
            | exact u8L_ofBytes _
            | (simp [nbeq, nble, iltB_eq, ileB_eq, ieqB_eq, u8L_ofBytes, bytesL_ofBytes, bytesOf_ofBytes, ofBytes_plainL, ofBytes_length, AV.intOf, AV.isInt, fl, f7, f6, ii, hM]; done)
            | (simp [nbeq, nble, iltB_eq, ileB_eq, ieqB_eq, u8L_ofBytes, bytesL_ofBytes, bytesOf_ofBytes, ofBytes_plainL, ofBytes_length, AV.intOf, AV.isInt, fl, f7, f6, ii, hM]; omega))
        replace key := key (by
          (try simp only [kept_eq, bytesL_ofBytes, bytesOf_ofBytes, Option.getD_some, hr, f1, f2, f3, f4, f5, f6, f7, ii, k0, k1, k2, k3, k4, hz, zr, z1, m1, gl, gp, bp, AV.intOf])
          first
            | done
            | rfl
            | assumption
            | exact ofBytes_plainL _
            | exact u8L_ofBytes _
            | (simp [nbeq, nble, iltB_eq, ileB_eq, ieqB_eq, u8L_ofBytes, bytesL_ofBytes, bytesOf_ofBytes, ofBytes_plainL, ofBytes_length, AV.intOf, AV.isInt, fl, f7, f6, ii, hM]; done)
            | (simp [nbeq, nble, iltB_eq, ileB_eq, ieqB_eq, u8L_ofBytes, bytesL_ofBytes, bytesOf_ofBytes, ofBytes_plainL, ofBytes_length, AV.intOf, AV.isInt, fl, f7, f6, ii, hM]; omega))
        replace key := key (by
          (try simp only [kept_eq, bytesL_ofBytes, bytesOf_ofBytes, Option.getD_some, hr, f1, f2, f3, f4, f5, f6, f7, ii, k0, k1, k2, k3, k4, hz, zr, z1, m1, gl, gp, bp, AV.intOf])
          first
            | done
            | rfl
            | assumption
            | exact ofBytes_plainL _
            | exact u8L_ofBytes _
            | (simp [nbeq, nble, iltB_eq, ileB_eq, ieqB_eq, u8L_ofBytes, bytesL_ofBytes, bytesOf_ofBytes, ofBytes_plainL, ofBytes_length, AV.intOf, AV.isInt, fl, f7, f6, ii, hM]; done)
            | (simp [nbeq, nble, iltB_eq, ileB_eq, ieqB_eq, u8L_ofBytes, bytesL_ofBytes, bytesOf_ofBytes, ofBytes_plainL, ofBytes_length, AV.intOf, AV.isInt, fl, f7, f6, ii, hM]; omega))
        replace key := key (by
          (try simp only [kept_eq, bytesL_ofBytes, bytesOf_ofBytes, Option.getD_some, hr, f1, f2, f3, f4, f5, f6, f7, ii, k0, k1, k2, k3, k4, hz, zr, z1, m1, gl, gp, bp, AV.intOf])
          first
            | done
            | rfl
            | assumption
            | exact ofBytes_plainL _
            | exact u8L_ofBytes _
            | (simp [nbeq, nble, iltB_eq, ileB_eq, ieqB_eq, u8L_ofBytes, bytesL_ofBytes, bytesOf_ofBytes, ofBytes_plainL, ofBytes_length, AV.intOf, AV.isInt, fl, f7, f6, ii, hM]; done)
            | (simp [nbeq, nble, iltB_eq, ileB_eq, ieqB_eq, u8L_ofBytes, bytesL_ofBytes, bytesOf_ofBytes, ofBytes_plainL, ofBytes_length, AV.intOf, AV.isInt, fl, f7, f6, ii, hM]; omega))
        replace key := key (by
          (try simp only [kept_eq, bytesL_ofBytes, bytesOf_ofBytes, Option.getD_some, hr, f1, f2, f3, f4, f5, f6, f7, ii, k0, k1, k2, k3, k4, hz, zr, z1, m1, gl, gp, bp, AV.intOf])
          first
            | done
            | rfl
            | assumption
            | exact ofBytes_plainL _
            | exact u8L_ofBytes _
            | (simp [nbeq, nble, iltB_eq, ileB_eq, ieqB_eq, u8L_ofBytes, bytesL_ofBytes, bytesOf_ofBytes, ofBytes_plainL, ofBytes_length, AV.intOf, AV.isInt, fl, f7, f6, ii, hM]; done)
            | (simp [nbeq, nble, iltB_eq, ileB_eq, ieqB_eq, u8L_ofBytes, bytesL_ofBytes, bytesOf_ofBytes, ofBytes_plainL, ofBytes_length, AV.intOf, AV.isInt, fl, f7, f6, ii, hM]; omega))
        replace key := key (by
          (try simp only [kept_eq, bytesL_ofBytes, bytesOf_ofBytes, Option.getD_some, hr, f1, f2, f3, f4, f5, f6, f7, ii, k0, k1, k2, k3, k4, hz, zr, z1, m1, gl, gp, bp, AV.intOf])
          first
            | done
            | rfl
            | assumption
            | exact ofBytes_plainL _
            | exact u8L_ofBytes _
            | (simp [nbeq, nble, iltB_eq, ileB_eq, ieqB_eq, u8L_ofBytes, bytesL_ofBytes, bytesOf_ofBytes, ofBytes_plainL, ofBytes_length, AV.intOf, AV.isInt, fl, f7, f6, ii, hM]; done)
            | (simp [nbeq, nble, iltB_eq, ileB_eq, ieqB_eq, u8L_ofBytes, bytesL_ofBytes, bytesOf_ofBytes, ofBytes_plainL, ofBytes_length, AV.intOf, AV.isInt, fl, f7, f6, ii, hM]; omega))
        replace key := key (by
          (try simp only [kept_eq, bytesL_ofBytes, bytesOf_ofBytes, Option.getD_some, hr, f1, f2, f3, f4, f5, f6, f7, ii, k0, k1, k2, k3, k4, hz, zr, z1, m1, gl, gp, bp, AV.intOf])
          first
            | done
            | rfl
            | assumption
            | exact ofBytes_plainL _
            | exact u8L_ofBytes _
            | (simp [nbeq, nble, iltB_eq, ileB_eq, ieqB_eq, u8L_ofBytes, bytesL_ofBytes, bytesOf_ofBytes, ofBytes_plainL, ofBytes_length, AV.intOf, AV.isInt, fl, f7, f6, ii, hM]; done)
            | (simp [nbeq, nble, iltB_eq, ileB_eq, ieqB_eq, u8L_ofBytes, bytesL_ofBytes, bytesOf_ofBytes, ofBytes_plainL, ofBytes_length, AV.intOf, AV.isInt, fl, f7, f6, ii, hM]; omega))
        replace key := key (by
          (try simp only [kept_eq, bytesL_ofBytes, bytesOf_ofBytes, Option.getD_some, hr, f1, f2, f3, f4, f5, f6, f7, ii, k0, k1, k2, k3, k4, hz, zr, z1, m1, gl, gp, bp, AV.intOf])
          first
            | done
            | rfl
            | assumption
            | exact ofBytes_plainL _
            | exact u8L_ofBytes _
            | (simp [nbeq, nble, iltB_eq, ileB_eq, ieqB_eq, u8L_ofBytes, bytesL_ofBytes, bytesOf_ofBytes, ofBytes_plainL, ofBytes_length, AV.intOf, AV.isInt, fl, f7, f6, ii, hM]; done)
            | (simp [nbeq, nble, iltB_eq, ileB_eq, ieqB_eq, u8L_ofBytes, bytesL_ofBytes, bytesOf_ofBytes, ofBytes_plainL, ofBytes_length, AV.intOf, AV.isInt, fl, f7, f6, ii, hM]; omega))
        replace key := key (by
          (try simp only [kept_eq, bytesL_ofBytes, bytesOf_ofBytes, Option.getD_some, hr, f1, f2, f3, f4, f5, f6, f7, ii, k0, k1, k2, k3, k4, hz, zr, z1, m1, gl, gp, bp, AV.intOf])
          first
            | done
            | rfl
            | assumption
            | exact ofBytes_plainL _
            | exact u8L_ofBytes _
            | (simp [nbeq, nble, iltB_eq, ileB_eq, ieqB_eq, u8L_ofBytes, bytesL_ofBytes, bytesOf_ofBytes, ofBytes_plainL, ofBytes_length, AV.intOf, AV.isInt, fl, f7, f6, ii, hM]; done)
            | (simp [nbeq, nble, iltB_eq, ileB_eq, ieqB_eq, u8L_ofBytes, bytesL_ofBytes, bytesOf_ofBytes, ofBytes_plainL, ofBytes_length, AV.intOf, AV.isInt, fl, f7, f6, ii, hM]; omega))
        replace key := key (by
          (try simp only [kept_eq, bytesL_ofBytes, bytesOf_ofBytes, Option.getD_some, hr, f1, f2, f3, f4, f5, f6, f7, ii, k0, k1, k2, k3, k4, hz, zr, z1, m1, gl, gp, bp, AV.intOf])
          first
            | done
            | rfl
            | assumption
            | exact ofBytes_plainL _
            | exact u8L_ofBytes _
            | (simp [nbeq, nble, iltB_eq, ileB_eq, ieqB_eq, u8L_ofBytes, bytesL_ofBytes, bytesOf_ofBytes, ofBytes_plainL, ofBytes_length, AV.intOf, AV.isInt, fl, f7, f6, ii, hM]; done)
            | (simp [nbeq, nble, iltB_eq, ileB_eq, ieqB_eq, u8L_ofBytes, bytesL_ofBytes, bytesOf_ofBytes, ofBytes_plainL, ofBytes_length, AV.intOf, AV.isInt, fl, f7, f6, ii, hM]; omega))
        replace key := key (by
          (try simp only [kept_eq, bytesL_ofBytes, bytesOf_ofBytes, Option.getD_some, hr, f1, f2, f3, f4, f5, f6, f7, ii, k0, k1, k2, k3, k4, hz, zr, z1, m1, gl, gp, bp, AV.intOf])
          first
            | done
            | rfl
            | assumption
            | exact ofBytes_plainL _
            | exact u8L_ofBytes _
            | (simp [nbeq, nble, iltB_eq, ileB_eq, ieqB_eq, u8L_ofBytes, bytesL_ofBytes, bytesOf_ofBytes, ofBytes_plainL, ofBytes_length, AV.intOf, AV.isInt, fl, f7, f6, ii, hM]; done)
            | (simp [nbeq, nble, iltB_eq, ileB_eq, ieqB_eq, u8L_ofBytes, bytesL_ofBytes, bytesOf_ofBytes, ofBytes_plainL, ofBytes_length, AV.intOf, AV.isInt, fl, f7, f6, ii, hM]; omega))
        replace key := key (by
          (try simp only [kept_eq, bytesL_ofBytes, bytesOf_ofBytes, Option.getD_some, hr, f1, f2, f3, f4, f5, f6, f7, ii, k0, k1, k2, k3, k4, hz, zr, z1, m1, gl, gp, bp, AV.intOf])
          first
            | done
            | rfl
            | assumption
            | exact ofBytes_plainL _
            | exact u8L_ofBytes _
            | (simp [nbeq, nble, iltB_eq, ileB_eq, ieqB_eq, u8L_ofBytes, bytesL_ofBytes, bytesOf_ofBytes, ofBytes_plainL, ofBytes_length, AV.intOf, AV.isInt, fl, f7, f6, ii, hM]; done)
            | (simp [nbeq, nble, iltB_eq, ileB_eq, ieqB_eq, u8L_ofBytes, bytesL_ofBytes, bytesOf_ofBytes, ofBytes_plainL, ofBytes_length, AV.intOf, AV.isInt, fl, f7, f6, ii, hM]; omega))
        replace key := key (by
          (try simp only [kept_eq, bytesL_ofBytes, bytesOf_ofBytes, Option.getD_some, hr, f1, f2, f3, f4, f5, f6, f7, ii, k0, k1, k2, k3, k4, hz, zr, z1, m1, gl, gp, bp, AV.intOf])
          first
            | done
            | rfl
            | assumption
            | exact ofBytes_plainL _
            | exact u8L_ofBytes _
            | (simp [nbeq, nble, iltB_eq, ileB_eq, ieqB_eq, u8L_ofBytes, bytesL_ofBytes, bytesOf_ofBytes, ofBytes_plainL, ofBytes_length, AV.intOf, AV.isInt, fl, f7, f6, ii, hM]; done)
            | (simp [nbeq, nble, iltB_eq, ileB_eq, ieqB_eq, u8L_ofBytes, bytesL_ofBytes, bytesOf_ofBytes, ofBytes_plainL, ofBytes_length, AV.intOf, AV.isInt, fl, f7, f6, ii, hM]; omega))
        replace key := key (by
          (try simp only [kept_eq, bytesL_ofBytes, bytesOf_ofBytes, Option.getD_some, hr, f1, f2, f3, f4, f5, f6, f7, ii, k0, k1, k2, k3, k4, hz, zr, z1, m1, gl, gp, bp, AV.intOf])
          first
            | done
            | rfl
            | assumption
            | exact ofBytes_plainL _
            | exact u8L_ofBytes _
            | (simp [nbeq, nble, iltB_eq, ileB_eq, ieqB_eq, u8L_ofBytes, bytesL_ofBytes, bytesOf_ofBytes, ofBytes_plainL, ofBytes_length, AV.intOf, AV.isInt, fl, f7, f6, ii, hM]; done)
            | (simp [nbeq, nble, iltB_eq, ileB_eq, ieqB_eq, u8L_ofBytes, bytesL_ofBytes, bytesOf_ofBytes, ofBytes_plainL, ofBytes_length, AV.intOf, AV.isInt, fl, f7, f6, ii, hM]; omega))
        obtain ⟨h', h, _⟩ := key
        refine ⟨h', h.trans ?_⟩
        (try simp only [kept_eq, bytesL_ofBytes, bytesOf_ofBytes, Option.getD_some, hr, f1, f2, f3, f4, f5, f6, f7, ii, k0, k1, k2, k3, k4, hz, zr, z1, m1, gl, gp, bp, AV.intOf])
        first
          | done
          | rfl
          | (simp [fl, f7, f6, ii, hM]; done)
      | false =>
        have a2 : (listAt (ofBytes (padB 512 (b.take 512))) 2).getD AV.undef = .int .u8 (byteI (padB 512 (b.take 512)) 2) := at_of _ 2 (by omega)
        have a3 : (listAt (ofBytes (padB 512 (b.take 512))) 3).getD AV.undef = .int .u8 (byteI (padB 512 (b.take 512)) 3) := at_of _ 3 (by omega)
        cases zr : rightC (byteI (padB 512 (b.take 512)) 2) (byteI (padB 512 (b.take 512)) 3) with
        | true =>
          have z1 := not_commitB hz zr (genI_lt _)
          have key := sc_r_wn2 s c g a b.length (ofBytes b)
          replace key := key (by
            (try simp only [kept_eq, bytesL_ofBytes, bytesOf_ofBytes, Option.getD_some, hr, f1, f2, f3, f4, f5, f6, f7, ii, k0, k1, k2, k3, k4, hz, zr, z1, m1, a2, a3, gl, gp, bp, AV.intOf])
            first
              | done
              | rfl
              | assumption
              | exact ofBytes_plainL _
              | exact u8L_ofBytes _
              | (simp [nbeq, nble, iltB_eq, ileB_eq, ieqB_eq, u8L_ofBytes, bytesL_ofBytes, bytesOf_ofBytes, ofBytes_plainL, ofBytes_length, AV.intOf, AV.isInt, fl, f7, f6, ii, hM]; done)
              | (simp [nbeq, nble, iltB_eq, ileB_eq, ieqB_eq, u8L_ofBytes, bytesL_ofBytes, bytesOf_ofBytes, ofBytes_plainL, ofBytes_length, AV.intOf, AV.isInt, fl, f7, f6, ii, hM]; omega))
          replace key := key (by
            (try simp only [kept_eq, bytesL_ofBytes, bytesOf_ofBytes, Option.getD_some, hr, f1, f2, f3, f4, f5, f6, f7, ii, k0, k1, k2, k3, k4, hz, zr, z1, m1, a2, a3, gl, gp, bp, AV.intOf])
            first
              | done
              | rfl
              | assumption
              | exact ofBytes_plainL _
              | exact u8L_ofBytes _
              | (simp [nbeq, nble, iltB_eq, ileB_eq, ieqB_eq, u8L_ofBytes, bytesL_ofBytes, bytesOf_ofBytes, ofBytes_plainL, ofBytes_length, AV.intOf, AV.isInt, fl, f7, f6, ii, hM]; done)
              | (simp [nbeq, nble, iltB_eq, ileB_eq, ieqB_eq, u8L_ofBytes, bytesL_ofBytes, bytesOf_ofBytes, ofBytes_plainL, ofBytes_length, AV.intOf, AV.isInt, fl, f7, f6, ii, hM]; omega))
          replace key := key (by
            (try simp only [kept_eq, bytesL_ofBytes, bytesOf_ofBytes, Option.getD_some, hr, f1, f2, f3, f4, f5, f6, f7, ii, k0, k1, k2, k3, k4, hz, zr, z1, m1, a2, a3, gl, gp, bp, AV.intOf])
            first
              | done
              | rfl
              | assumption
              | exact ofBytes_plainL _
              | exact u8L_ofBytes _
              | (simp [nbeq, nble, iltB_eq, ileB_eq, ieqB_eq, u8L_ofBytes, bytesL_ofBytes, bytesOf_ofBytes, ofBytes_plainL, ofBytes_length, AV.intOf, AV.isInt, fl, f7, f6, ii, hM]; done)
              | (simp [nbeq, nble, iltB_eq, ileB_eq, ieqB_eq, u8L_ofBytes, bytesL_ofBytes, bytesOf_ofBytes, ofBytes_plainL, ofBytes_length, AV.intOf, AV.isInt, fl, f7, f6, ii, hM]; omega))
          replace key := key (by
            (try simp only [kept_eq, bytesL_ofBytes, bytesOf_ofBytes, Option.getD_some, hr, f1, f2, f3, f4, f5, f6, f7, ii, k0, k1, k2, k3, k4, hz, zr, z1, m1, a2, a3, gl, gp, bp, AV.intOf])
            first
              | done
              | rfl
              | assumption
              | exact ofBytes_plainL _
              | exact u8L_ofBytes _
              | (simp [nbeq, nble, iltB_eq, ileB_eq, ieqB_eq, u8L_ofBytes, bytesL_ofBytes, bytesOf_ofBytes, ofBytes_plainL, ofBytes_length, AV.intOf, AV.isInt, fl, f7, f6, ii, hM]; done)
              | (simp [nbeq, nble, iltB_eq, ileB_eq, ieqB_eq, u8L_ofBytes, bytesL_ofBytes, bytesOf_ofBytes, ofBytes_plainL, ofBytes_length, AV.intOf, AV.isInt, fl, f7, f6, ii, hM]; omega))
          replace key := key (by
            (try simp only [kept_eq, bytesL_ofBytes, bytesOf_ofBytes, Option.getD_some, hr, f1, f2, f3, f4, f5, f6, f7, ii, k0, k1, k2, k3, k4, hz, zr, z1, m1, a2, a3, gl, gp, bp, AV.intOf])
            first
              | done
              | rfl
              | assumption
              | exact ofBytes_plainL _
              | exact u8L_ofBytes _
              | (simp [nbeq, nble, iltB_eq, ileB_eq, ieqB_eq, u8L_ofBytes, bytesL_ofBytes, bytesOf_ofBytes, ofBytes_plainL, ofBytes_length, AV.intOf, AV.isInt, fl, f7, f6, ii, hM]; done)
              | (simp [nbeq, nble, iltB_eq, ileB_eq, ieqB_eq, u8L_ofBytes, bytesL_ofBytes, bytesOf_ofBytes, ofBytes_plainL, ofBytes_length, AV.intOf, AV.isInt, fl, f7, f6, ii, hM]; omega))
          replace key := key (by
            (try simp only [kept_eq, bytesL_ofBytes, bytesOf_ofBytes, Option.getD_some, hr, f1, f2, f3, f4, f5, f6, f7, ii, k0, k1, k2, k3, k4, hz, zr, z1, m1, a2, a3, gl, gp, bp, AV.intOf])
            first
              | done
              | rfl
              | assumption
              | exact ofBytes_plainL _
              | exact u8L_ofBytes _
              | (simp [nbeq, nble, iltB_eq, ileB_eq, ieqB_eq, u8L_ofBytes, bytesL_ofBytes, bytesOf_ofBytes, ofBytes_plainL, ofBytes_length, AV.intOf, AV.isInt, fl, f7, f6, ii, hM]; done)
              | (simp [nbeq, nble, iltB_eq, ileB_eq, ieqB_eq, u8L_ofBytes, bytesL_ofBytes, bytesOf_ofBytes, ofBytes_plainL, ofBytes_length, AV.intOf, AV.isInt, fl, f7, f6, ii, hM]; omega))
          replace key := key (by
            (try simp only [kept_eq, bytesL_ofBytes, bytesOf_ofBytes, Option.getD_some, hr, f1, f2, f3, f4, f5, f6, f7, ii, k0, k1, k2, k3, k4, hz, zr, z1, m1, a2, a3, gl, gp, bp, AV.intOf])
            first
              | done
              | rfl
              | assumption
              | exact ofBytes_plainL _
              | exact u8L_ofBytes _
              | (simp [nbeq, nble, iltB_eq, ileB_eq, ieqB_eq, u8L_ofBytes, bytesL_ofBytes, bytesOf_ofBytes, ofBytes_plainL, ofBytes_length, AV.intOf, AV.isInt, fl, f7, f6, ii, hM]; done)
              | (simp [nbeq, nble, iltB_eq, ileB_eq, ieqB_eq, u8L_ofBytes, bytesL_ofBytes, bytesOf_ofBytes, ofBytes_plainL, ofBytes_length, AV.intOf, AV.isInt, fl, f7, f6, ii, hM]; omega))
          replace key := key (by
            (try simp only [kept_eq, bytesL_ofBytes, bytesOf_ofBytes, Option.getD_some, hr, f1, f2, f3, f4, f5, f6, f7, ii, k0, k1, k2, k3, k4, hz, zr, z1, m1, a2, a3, gl, gp, bp, AV.intOf])
            first
              | done
              | rfl
              | assumption
              | exact ofBytes_plainL _
              | exact u8L_ofBytes _
              | (simp [nbeq, nble, iltB_eq, ileB_eq, ieqB_eq, u8L_ofBytes, bytesL_ofBytes, bytesOf_ofBytes, ofBytes_plainL, ofBytes_length, AV.intOf, AV.isInt, fl, f7, f6, ii, hM]; done)
              | (simp [nbeq, nble, iltB_eq, ileB_eq, ieqB_eq, u8L_ofBytes, bytesL_ofBytes, bytesOf_ofBytes, ofBytes_plainL, ofBytes_length, AV.intOf, AV.isInt, fl, f7, f6, ii, hM]; omega))
          replace key := key (by
            (try simp only [kept_eq, bytesL_ofBytes, bytesOf_ofBytes, Option.getD_some, hr, f1, f2, f3, f4, f5, f6, f7, ii, k0, k1, k2, k3, k4, hz, zr, z1, m1, a2, a3, gl, gp, bp, AV.intOf])
            first
              | done
              | rfl
              | assumption
              | exact ofBytes_plainL _
              | exact u8L_ofBytes _
              | (simp [nbeq, nble, iltB_eq, ileB_eq, ieqB_eq, u8L_ofBytes, bytesL_ofBytes, bytesOf_ofBytes, ofBytes_plainL, ofBytes_length, AV.intOf, AV.isInt, fl, f7, f6, ii, hM]; done)
              | (simp [nbeq, nble, iltB_eq, ileB_eq, ieqB_eq, u8L_ofBytes, bytesL_ofBytes, bytesOf_ofBytes, ofBytes_plainL, ofBytes_length, AV.intOf, AV.isInt, fl, f7, f6, ii, hM]; omega))
          replace key := key (by
            (try simp only [kept_eq, bytesL_ofBytes, bytesOf_ofBytes, Option.getD_some, hr, f1, f2, f3, f4, f5, f6, f7, ii, k0, k1, k2, k3, k4, hz, zr, z1, m1, a2, a3, gl, gp, bp, AV.intOf])
            first
              | done
              | rfl
              | assumption
              | exact ofBytes_plainL _
              | exact u8L_ofBytes _
              | (simp [nbeq, nble, iltB_eq, ileB_eq, ieqB_eq, u8L_ofBytes, bytesL_ofBytes, bytesOf_ofBytes, ofBytes_plainL, ofBytes_length, AV.intOf, AV.isInt, fl, f7, f6, ii, hM]; done)
              | (simp [nbeq, nble, iltB_eq, ileB_eq, ieqB_eq, u8L_ofBytes, bytesL_ofBytes, bytesOf_ofBytes, ofBytes_plainL, ofBytes_length, AV.intOf, AV.isInt, fl, f7, f6, ii, hM]; omega))
          replace key := key (by
            (try simp only [kept_eq, bytesL_ofBytes, bytesOf_ofBytes, Option.getD_some, hr, f1, f2, f3, f4, f5, f6, f7, ii, k0, k1, k2, k3, k4, hz, zr, z1, m1, a2, a3, gl, gp, bp, AV.intOf])
            first
              | done
              | rfl
              | assumption
              | exact ofBytes_plainL _
              | exact u8L_ofBytes _
              | (simp [nbeq, nble, iltB_eq, ileB_eq, ieqB_eq, u8L_ofBytes, bytesL_ofBytes, bytesOf_ofBytes, ofBytes_plainL, ofBytes_length, AV.intOf, AV.isInt, fl, f7, f6, ii, hM]; done)
              | (simp [nbeq, nble, iltB_eq, ileB_eq, ieqB_eq, u8L_ofBytes, bytesL_ofBytes, bytesOf_ofBytes, ofBytes_plainL, ofBytes_length, AV.intOf, AV.isInt, fl, f7, f6, ii, hM]; omega))
          replace key := key (by
            (try simp only [kept_eq, bytesL_ofBytes, bytesOf_ofBytes, Option.getD_some, hr, f1, f2, f3, f4, f5, f6, f7, ii, k0, k1, k2, k3, k4, hz, zr, z1, m1, a2, a3, gl, gp, bp, AV.intOf])
            first
              | done
              | rfl
              | assumption
              | exact ofBytes_plainL _
              | exact u8L_ofBytes _
              | (simp [nbeq, nble, iltB_eq, ileB_eq, ieqB_eq, u8L_ofBytes, bytesL_ofBytes, bytesOf_ofBytes, ofBytes_plainL, ofBytes_length, AV.intOf, AV.isInt, fl, f7, f6, ii, hM]; done)
              | (simp [nbeq, nble, iltB_eq, ileB_eq, ieqB_eq, u8L_ofBytes, bytesL_ofBytes, bytesOf_ofBytes, ofBytes_plainL, ofBytes_length, AV.intOf, AV.isInt, fl, f7, f6, ii, hM]; omega))
          replace key := key (by
            (try simp only [kept_eq, bytesL_ofBytes, bytesOf_ofBytes, Option.getD_some, hr, f1, f2, f3, f4, f5, f6, f7, ii, k0, k1, k2, k3, k4, hz, zr, z1, m1, a2, a3, gl, gp, bp, AV.intOf])
            first
              | done
              | rfl
              | assumption
              | exact ofBytes_plainL _
              | exact u8L_ofBytes _
              | (simp [nbeq, nble, iltB_eq, ileB_eq, ieqB_eq, u8L_ofBytes, bytesL_ofBytes, bytesOf_ofBytes, ofBytes_plainL, ofBytes_length, AV.intOf, AV.isInt, fl, f7, f6, ii, hM]; done)
              | (simp [nbeq, nble, iltB_eq, ileB_eq, ieqB_eq, u8L_ofBytes, bytesL_ofBytes, bytesOf_ofBytes, ofBytes_plainL, ofBytes_length, AV.intOf, AV.isInt, fl, f7, f6, ii, hM]; omega))
          replace key := key (by
            (try simp only [kept_eq, bytesL_ofBytes, bytesOf_ofBytes, Option.getD_some, hr, f1, f2, f3, f4, f5, f6, f7, ii, k0, k1, k2, k3, k4, hz, zr, z1, m1, a2, a3, gl, gp, bp, AV.intOf])
            first
              | done
              | rfl
              | assumption
              | exact ofBytes_plainL _
              | exact u8L_ofBytes _
              | (simp [nbeq, nble, iltB_eq, ileB_eq, ieqB_eq, u8L_ofBytes, bytesL_ofBytes, bytesOf_ofBytes, ofBytes_plainL, ofBytes_length, AV.intOf, AV.isInt, fl, f7, f6, ii, hM]; done)
              | (simp [nbeq, nble, iltB_eq, ileB_eq, ieqB_eq, u8L_ofBytes, bytesL_ofBytes, bytesOf_ofBytes, ofBytes_plainL, ofBytes_length, AV.intOf, AV.isInt, fl, f7, f6, ii, hM]; omega))
          replace key := key (by
            (try simp only [kept_eq, bytesL_ofBytes, bytesOf_ofBytes, Option.getD_some, hr, f1, f2, f3, f4, f5, f6, f7, ii, k0, k1, k2, k3, k4, hz, zr, z1, m1, a2, a3, gl, gp, bp, AV.intOf])
            first
              | done
              | rfl
              | assumption
              | exact ofBytes_plainL _
              | exact u8L_ofBytes _
              | (simp [nbeq, nble, iltB_eq, ileB_eq, ieqB_eq, u8L_ofBytes, bytesL_ofBytes, bytesOf_ofBytes, ofBytes_plainL, ofBytes_length, AV.intOf, AV.isInt, fl, f7, f6, ii, hM]; done)
              | (simp [nbeq, nble, iltB_eq, ileB_eq, ieqB_eq, u8L_ofBytes, bytesL_ofBytes, bytesOf_ofBytes, ofBytes_plainL, ofBytes_length, AV.intOf, AV.isInt, fl, f7, f6, ii, hM]; omega))
          replace key := key (by
            (try simp only [kept_eq, bytesL_ofBytes, bytesOf_ofBytes, Option.getD_some, hr, f1, f2, f3, f4, f5, f6, f7, ii, k0, k1, k2, k3, k4, hz, zr, z1, m1, a2, a3, gl, gp, bp, AV.intOf])
            first
              | done
              | rfl
              | assumption
              | exact ofBytes_plainL _
              | exact u8L_ofBytes _
              | (simp [nbeq, nble, iltB_eq, ileB_eq, ieqB_eq, u8L_ofBytes, bytesL_ofBytes, bytesOf_ofBytes, ofBytes_plainL, ofBytes_length, AV.intOf, AV.isInt, fl, f7, f6, ii, hM]; done)
              | (simp [nbeq, nble, iltB_eq, ileB_eq, ieqB_eq, u8L_ofBytes, bytesL_ofBytes, bytesOf_ofBytes, ofBytes_plainL, ofBytes_length, AV.intOf, AV.isInt, fl, f7, f6, ii, hM]; omega))
          replace key := key (by
            (try simp only [kept_eq, bytesL_ofBytes, bytesOf_ofBytes, Option.getD_some, hr, f1, f2, f3, f4, f5, f6, f7, ii, k0, k1, k2, k3, k4, hz, zr, z1, m1, a2, a3, gl, gp, bp, AV.intOf])
            first
              | done
              | rfl
              | assumption
              | exact ofBytes_plainL _
              | exact u8L_ofBytes _
              | (simp [nbeq, nble, iltB_eq, ileB_eq, ieqB_eq, u8L_ofBytes, bytesL_ofBytes, bytesOf_ofBytes, ofBytes_plainL, ofBytes_length, AV.intOf, AV.isInt, fl, f7, f6, ii, hM]; done)
              | (simp [nbeq, nble, iltB_eq, ileB_eq, ieqB_eq, u8L_ofBytes, bytesL_ofBytes, bytesOf_ofBytes, ofBytes_plainL, ofBytes_length, AV.intOf, AV.isInt, fl, f7, f6, ii, hM]; omega))
          replace key := key (by
            (try simp only [kept_eq, bytesL_ofBytes, bytesOf_ofBytes, Option.getD_some, hr, f1, f2, f3, f4, f5, f6, f7, ii, k0, k1, k2, k3, k4, hz, zr, z1, m1, a2, a3, gl, gp, bp, AV.intOf])
            first
              | done
              | rfl
              | assumption
              | exact ofBytes_plainL _
              | exact u8L_ofBytes _
              | (simp [nbeq, nble, iltB_eq, ileB_eq, ieqB_eq, u8L_ofBytes, bytesL_ofBytes, bytesOf_ofBytes, ofBytes_plainL, ofBytes_length, AV.intOf, AV.isInt, fl, f7, f6, ii, hM]; done)
              | (simp [nbeq, nble, iltB_eq, ileB_eq, ieqB_eq, u8L_ofBytes, bytesL_ofBytes, bytesOf_ofBytes, ofBytes_plainL, ofBytes_length, AV.intOf, AV.isInt, fl, f7, f6, ii, hM]; omega))
          replace key := key (by
            (try simp only [kept_eq, bytesL_ofBytes, bytesOf_ofBytes, Option.getD_some, hr, f1, f2, f3, f4, f5, f6, f7, ii, k0, k1, k2, k3, k4, hz, zr, z1, m1, a2, a3, gl, gp, bp, AV.intOf])
            first
              | done
              | rfl
              | assumption
              | exact ofBytes_plainL _
              | exact u8L_ofBytes _
              | (simp [nbeq, nble, iltB_eq, ileB_eq, ieqB_eq, u8L_ofBytes, bytesL_ofBytes, bytesOf_ofBytes, ofBytes_plainL, ofBytes_length, AV.intOf, AV.isInt, fl, f7, f6, ii, hM]; done)
              | (simp [nbeq, nble, iltB_eq, ileB_eq, ieqB_eq, u8L_ofBytes, bytesL_ofBytes, bytesOf_ofBytes, ofBytes_plainL, ofBytes_length, AV.intOf, AV.isInt, fl, f7, f6, ii, hM]; omega))
          replace key := key (by
            (try simp only [kept_eq, bytesL_ofBytes, bytesOf_ofBytes, Option.getD_some, hr, f1, f2, f3, f4, f5, f6, f7, ii, k0, k1, k2, k3, k4, hz, zr, z1, m1, a2, a3, gl, gp, bp, AV.intOf])
            first
              | done
              | rfl
              | assumption
              | exact ofBytes_plainL _
              | exact u8L_ofBytes _
              | (simp [nbeq, nble, iltB_eq, ileB_eq, ieqB_eq, u8L_ofBytes, bytesL_ofBytes, bytesOf_ofBytes, ofBytes_plainL, ofBytes_length, AV.intOf, AV.isInt, fl, f7, f6, ii, hM]; done)
              | (simp [nbeq, nble, iltB_eq, ileB_eq, ieqB_eq, u8L_ofBytes, bytesL_ofBytes, bytesOf_ofBytes, ofBytes_plainL, ofBytes_length, AV.intOf, AV.isInt, fl, f7, f6, ii, hM]; omega))
          replace key := key (by
            (try simp only [kept_eq, bytesL_ofBytes, bytesOf_ofBytes, Option.getD_some, hr, f1, f2, f3, f4, f5, f6, f7, ii, k0, k1, k2, k3, k4, hz, zr, z1, m1, a2, a3, gl, gp, bp, AV.intOf])
            first
              | done
              | rfl
              | assumption
              | exact ofBytes_plainL _
              | exact u8L_ofBytes _
              | (simp [nbeq, nble, iltB_eq, ileB_eq, ieqB_eq, u8L_ofBytes, bytesL_ofBytes, bytesOf_ofBytes, ofBytes_plainL, ofBytes_length, AV.intOf, AV.isInt, fl, f7, f6, ii, hM]; done)
              | (simp [nbeq, nble, iltB_eq, ileB_eq, ieqB_eq, u8L_ofBytes, bytesL_ofBytes, bytesOf_ofBytes, ofBytes_plainL, ofBytes_length, AV.intOf, AV.isInt, fl, f7, f6, ii, hM]; omega))
          replace key := key (by
            (try simp only [kept_eq, bytesL_ofBytes, bytesOf_ofBytes, Option.getD_some, hr, f1, f2, f3, f4, f5, f6, f7, ii, k0, k1, k2, k3, k4, hz, zr, z1, m1, a2, a3, gl, gp, bp, AV.intOf])
            first
              | done
              | rfl
              | assumption
              | exact ofBytes_plainL _
              | exact u8L_ofBytes _
              | (simp [nbeq, nble, iltB_eq, ileB_eq, ieqB_eq, u8L_ofBytes, bytesL_ofBytes, bytesOf_ofBytes, ofBytes_plainL, ofBytes_length, AV.intOf, AV.isInt, fl, f7, f6, ii, hM]; done)
              | (simp [nbeq, nble, iltB_eq, ileB_eq, ieqB_eq, u8L_ofBytes, bytesL_ofBytes, bytesOf_ofBytes, ofBytes_plainL, ofBytes_length, AV.intOf, AV.isInt, fl, f7, f6, ii, hM]; omega))
          replace key := key (by
            (try simp only [kept_eq, bytesL_ofBytes, bytesOf_ofBytes, Option.getD_some, hr, f1, f2, f3, f4, f5, f6, f7, ii, k0, k1, k2, k3, k4, hz, zr, z1, m1, a2, a3, gl, gp, bp, AV.intOf])
            first
              | done
              | rfl
              | assumption
              | exact ofBytes_plainL _
              | exact u8L_ofBytes _
              | (simp [nbeq, nble, iltB_eq, ileB_eq, ieqB_eq, u8L_ofBytes, bytesL_ofBytes, bytesOf_ofBytes, ofBytes_plainL, ofBytes_length, AV.intOf, AV.isInt, fl, f7, f6, ii, hM]; done)
              | (simp [nbeq, nble, iltB_eq, ileB_eq, ieqB_eq, u8L_ofBytes, bytesL_ofBytes, bytesOf_ofBytes, ofBytes_plainL, ofBytes_length, AV.intOf, AV.isInt, fl, f7, f6, ii, hM]; omega))
          replace key := key (by
            (try simp only [kept_eq, bytesL_ofBytes, bytesOf_ofBytes, Option.getD_some, hr, f1, f2, f3, f4, f5, f6, f7, ii, k0, k1, k2, k3, k4, hz, zr, z1, m1, a2, a3, gl, gp, bp, AV.intOf])
            first
              | done
              | rfl
              | assumption
              | exact ofBytes_plainL _
              | exact u8L_ofBytes _
              | (simp [nbeq, nble, iltB_eq, ileB_eq, ieqB_eq, u8L_ofBytes, bytesL_ofBytes, bytesOf_ofBytes, ofBytes_plainL, ofBytes_length, AV.intOf, AV.isInt, fl, f7, f6, ii, hM]; done)
              | (simp [nbeq, nble, iltB_eq, ileB_eq, ieqB_eq, u8L_ofBytes, bytesL_ofBytes, bytesOf_ofBytes, ofBytes_plainL, ofBytes_length, AV.intOf, AV.isInt, fl, f7, f6, ii, hM]; omega))
          replace key := key (by
            (try simp only [kept_eq, bytesL_ofBytes, bytesOf_ofBytes, Option.getD_some, hr, f1, f2, f3, f4, f5, f6, f7, ii, k0, k1, k2, k3, k4, hz, zr, z1, m1, a2, a3, gl, gp, bp, AV.intOf])
            first
              | done
              | rfl
              | assumption
              | exact ofBytes_plainL _
              | exact u8L_ofBytes _
              | (simp [nbeq, nble, iltB_eq, ileB_eq, ieqB_eq, u8L_ofBytes, bytesL_ofBytes, bytesOf_ofBytes, ofBytes_plainL, ofBytes_length, AV.intOf, AV.isInt, fl, f7, f6, ii, hM]; done)
              | (simp [nbeq, nble, iltB_eq, ileB_eq, ieqB_eq, u8L_ofBytes, bytesL_ofBytes, bytesOf_ofBytes, ofBytes_plainL, ofBytes_length, AV.intOf, AV.isInt, fl, f7, f6, ii, hM]; omega))
          replace key := key (by
            (try simp only [kept_eq, bytesL_ofBytes, bytesOf_ofBytes, Option.getD_some, hr, f1, f2, f3, f4, f5, f6, f7, ii, k0, k1, k2, k3, k4, hz, zr, z1, m1, a2, a3, gl, gp, bp, AV.intOf])
            first
              | done
              | rfl
              | assumption
              | exact ofBytes_plainL _
              | exact u8L_ofBytes _
              | (simp [nbeq, nble, iltB_eq, ileB_eq, ieqB_eq, u8L_ofBytes, bytesL_ofBytes, bytesOf_ofBytes, ofBytes_plainL, ofBytes_length, AV.intOf, AV.isInt, fl, f7, f6, ii, hM]; done)
              | (simp [nbeq, nble, iltB_eq, ileB_eq, ieqB_eq, u8L_ofBytes, bytesL_ofBytes, bytesOf_ofBytes, ofBytes_plainL, ofBytes_length, AV.intOf, AV.isInt, fl, f7, f6, ii, hM]; omega))
          replace key := key (by
            (try simp only [kept_eq, bytesL_ofBytes, bytesOf_ofBytes, Option.getD_some, hr, f1, f2, f3, f4, f5, f6, f7, ii, k0, k1, k2, k3, k4, hz, zr, z1, m1, a2, a3, gl, gp, bp, AV.intOf])
            first
              | done
              | rfl
              | assumption
              | exact ofBytes_plainL _
              | exact u8L_ofBytes _
              | (simp [nbeq, nble, iltB_eq, ileB_eq, ieqB_eq, u8L_ofBytes, bytesL_ofBytes, bytesOf_ofBytes, ofBytes_plainL, ofBytes_length, AV.intOf, AV.isInt, fl, f7, f6, ii, hM]; done)
              | (simp [nbeq, nble, iltB_eq, ileB_eq, ieqB_eq, u8L_ofBytes, bytesL_ofBytes, bytesOf_ofBytes, ofBytes_plainL, ofBytes_length, AV.intOf, AV.isInt, fl, f7, f6, ii, hM]; omega))
          replace key := key (by
            (try simp only [kept_eq, bytesL_ofBytes, bytesOf_ofBytes, Option.getD_some, hr, f1, f2, f3, f4, f5, f6, f7, ii, k0, k1, k2, k3, k4, hz, zr, z1, m1, a2, a3, gl, gp, bp, AV.intOf])
            first
              | done
              | rfl
              | assumption
              | exact ofBytes_plainL _
              | exact u8L_ofBytes _
              | (simp [nbeq, nble, iltB_eq, ileB_eq, ieqB_eq, u8L_ofBytes, bytesL_ofBytes, bytesOf_ofBytes, ofBytes_plainL, ofBytes_length, AV.intOf, AV.isInt, fl, f7, f6, ii, hM]; done)
              | (simp [nbeq, nble, iltB_eq, ileB_eq, ieqB_eq, u8L_ofBytes, bytesL_ofBytes, bytesOf_ofBytes, ofBytes_plainL, ofBytes_length, AV.intOf, AV.isInt, fl, f7, f6, ii, hM]; omega))
          replace key := key (by
            (try simp only [kept_eq, bytesL_ofBytes, bytesOf_ofBytes, Option.getD_some, hr, f1, f2, f3, f4, f5, f6, f7, ii, k0, k1, k2, k3, k4, hz, zr, z1, m1, a2, a3, gl, gp, bp, AV.intOf])
            first
              | done
              | rfl
              | assumption
              | exact ofBytes_plainL _
              | exact u8L_ofBytes _
              | (simp [nbeq, nble, iltB_eq, ileB_eq, ieqB_eq, u8L_ofBytes, bytesL_ofBytes, bytesOf_ofBytes, ofBytes_plainL, ofBytes_length, AV.intOf, AV.isInt, fl, f7, f6, ii, hM]; done)
              | (simp [nbeq, nble, iltB_eq, ileB_eq, ieqB_eq, u8L_ofBytes, bytesL_ofBytes, bytesOf_ofBytes, ofBytes_plainL, ofBytes_length, AV.intOf, AV.isInt, fl, f7, f6, ii, hM]; omega))
          replace key := key (by
            (try simp only [kept_eq, bytesL_ofBytes, bytesOf_ofBytes, Option.getD_some, hr, f1, f2, f3, f4, f5, f6, f7, ii, k0, k1, k2, k3, k4, hz, zr, z1, m1, a2, a3, gl, gp, bp, AV.intOf])
            first
              | done
              | rfl
              | assumption
              | exact ofBytes_plainL _
              | exact u8L_ofBytes _
              | (simp [nbeq, nble, iltB_eq, ileB_eq, ieqB_eq, u8L_ofBytes, bytesL_ofBytes, bytesOf_ofBytes, ofBytes_plainL, ofBytes_length, AV.intOf, AV.isInt, fl, f7, f6, ii, hM]; done)
              | (simp [nbeq, nble, iltB_eq, ileB_eq, ieqB_eq, u8L_ofBytes, bytesL_ofBytes, bytesOf_ofBytes, ofBytes_plainL, ofBytes_length, AV.intOf, AV.isInt, fl, f7, f6, ii, hM]; omega))
          replace key := key (by
            (try simp only [kept_eq, bytesL_ofBytes, bytesOf_ofBytes, Option.getD_some, hr, f1, f2, f3, f4, f5, f6, f7, ii, k0, k1, k2, k3, k4, hz, zr, z1, m1, a2, a3, gl, gp, bp, AV.intOf])
            first
              | done
              | rfl
              | assumption
              | exact ofBytes_plainL _
              | exact u8L_ofBytes _
              | (simp [nbeq, nble, iltB_eq, ileB_eq, ieqB_eq, u8L_ofBytes, bytesL_ofBytes, bytesOf_ofBytes, ofBytes_plainL, ofBytes_length, AV.intOf, AV.isInt, fl, f7, f6, ii, hM]; done)
              | (simp [nbeq, nble, iltB_eq, ileB_eq, ieqB_eq, u8L_ofBytes, bytesL_ofBytes, bytesOf_ofBytes, ofBytes_plainL, ofBytes_length, AV.intOf, AV.isInt, fl, f7, f6, ii, hM]; omega))
          replace key := key (by
            (try simp only [kept_eq, bytesL_ofBytes, bytesOf_ofBytes, Option.getD_some, hr, f1, f2, f3, f4, f5, f6, f7, ii, k0, k1, k2, k3, k4, hz, zr, z1, m1, a2, a3, gl, gp, bp, AV.intOf])
            first
              | done
              | rfl
              | assumption
              | exact ofBytes_plainL _
              | exact u8L_ofBytes _
              | (simp [nbeq, nble, iltB_eq, ileB_eq, ieqB_eq, u8L_ofBytes, bytesL_ofBytes, bytesOf_ofBytes, ofBytes_plainL, ofBytes_length, AV.intOf, AV.isInt, fl, f7, f6, ii, hM]; done)
              | (simp [nbeq, nble, iltB_eq, ileB_eq, ieqB_eq, u8L_ofBytes, bytesL_ofBytes, bytesOf_ofBytes, ofBytes_plainL, ofBytes_length, AV.intOf, AV.isInt, fl, f7, f6, ii, hM]; omega))
          obtain ⟨h', h, _⟩ := key
          refine ⟨h', h.trans ?_⟩
          (try simp only [kept_eq, bytesL_ofBytes, bytesOf_ofBytes, Option.getD_some, hr, f1, f2, f3, f4, f5, f6, f7, ii, k0, k1, k2, k3, k4, hz, zr, z1, m1, a2, a3, gl, gp, bp, AV.intOf])
          first
            | done
            | rfl
            | (simp [fl, f7, f6, ii, hM]; done)
        | false =>
          have z1 := (bytesEq_nil hM).2
          have key := sc_r_wn3 s c g a b.length (ofBytes b)
          replace key := key (by
            (try simp only [kept_eq, bytesL_ofBytes, bytesOf_ofBytes, Option.getD_some, hr, f1, f2, f3, f4, f5, f6, f7, ii, k0, k1, k2, k3, k4, hz, zr, z1, m1, a2, a3, gl, gp, bp, AV.intOf])
            first
              | done
              | rfl
              | assumption
              | exact ofBytes_plainL _
              | exact u8L_ofBytes _
              | (simp [nbeq, nble, iltB_eq, ileB_eq, ieqB_eq, u8L_ofBytes, bytesL_ofBytes, bytesOf_ofBytes, ofBytes_plainL, ofBytes_length, AV.intOf, AV.isInt, fl, f7, f6, ii, hM]; done)
              | (simp [nbeq, nble, iltB_eq, ileB_eq, ieqB_eq, u8L_ofBytes, bytesL_ofBytes, bytesOf_ofBytes, ofBytes_plainL, ofBytes_length, AV.intOf, AV.isInt, fl, f7, f6, ii, hM]; omega))
          replace key := key (by
            (try simp only [kept_eq, bytesL_ofBytes, bytesOf_ofBytes, Option.getD_some, hr, f1, f2, f3, f4, f5, f6, f7, ii, k0, k1, k2, k3, k4, hz, zr, z1, m1, a2, a3, gl, gp, bp, AV.intOf])
            first
              | done
              | rfl
              | assumption
              | exact ofBytes_plainL _
              | exact u8L_ofBytes _
              | (simp [nbeq, nble, iltB_eq, ileB_eq, ieqB_eq, u8L_ofBytes, bytesL_ofBytes, bytesOf_ofBytes, ofBytes_plainL, ofBytes_length, AV.intOf, AV.isInt, fl, f7, f6, ii, hM]; done)
              | (simp [nbeq, nble, iltB_eq, ileB_eq, ieqB_eq, u8L_ofBytes, bytesL_ofBytes, bytesOf_ofBytes, ofBytes_plainL, ofBytes_length, AV.intOf, AV.isInt, fl, f7, f6, ii, hM]; omega))
          replace key := key (by
            (try simp only [kept_eq, bytesL_ofBytes, bytesOf_ofBytes, Option.getD_some, hr, f1, f2, f3, f4, f5, f6, f7, ii, k0, k1, k2, k3, k4, hz, zr, z1, m1, a2, a3, gl, gp, bp, AV.intOf])
            first
              | done
              | rfl
              | assumption
              | exact ofBytes_plainL _
              | exact u8L_ofBytes _
              | (simp [nbeq, nble, iltB_eq, ileB_eq, ieqB_eq, u8L_ofBytes, bytesL_ofBytes, bytesOf_ofBytes, ofBytes_plainL, ofBytes_length, AV.intOf, AV.isInt, fl, f7, f6, ii, hM]; done)
              | (simp [nbeq, nble, iltB_eq, ileB_eq, ieqB_eq, u8L_ofBytes, bytesL_ofBytes, bytesOf_ofBytes, ofBytes_plainL, ofBytes_length, AV.intOf, AV.isInt, fl, f7, f6, ii, hM]; omega))
          replace key := key (by
            (try simp only [kept_eq, bytesL_ofBytes, bytesOf_ofBytes, Option.getD_some, hr, f1, f2, f3, f4, f5, f6, f7, ii, k0, k1, k2, k3, k4, hz, zr, z1, m1, a2, a3, gl, gp, bp, AV.intOf])
            first
              | done
              | rfl
              | assumption
              | exact ofBytes_plainL _
              | exact u8L_ofBytes _
              | (simp [nbeq, nble, iltB_eq, ileB_eq, ieqB_eq, u8L_ofBytes, bytesL_ofBytes, bytesOf_ofBytes, ofBytes_plainL, ofBytes_length, AV.intOf, AV.isInt, fl, f7, f6, ii, hM]; done)
              | (simp [nbeq, nble, iltB_eq, ileB_eq, ieqB_eq, u8L_ofBytes, bytesL_ofBytes, bytesOf_ofBytes, ofBytes_plainL, ofBytes_length, AV.intOf, AV.isInt, fl, f7, f6, ii, hM]; omega))
          replace key := key (by
            (try simp only [kept_eq, bytesL_ofBytes, bytesOf_ofBytes, Option.getD_some, hr, f1, f2, f3, f4, f5, f6, f7, ii, k0, k1, k2, k3, k4, hz, zr, z1, m1, a2, a3, gl, gp, bp, AV.intOf])
            first
              | done
              | rfl
              | assumption
              | exact ofBytes_plainL _
              | exact u8L_ofBytes _
              | (simp [nbeq, nble, iltB_eq, ileB_eq, ieqB_eq, u8L_ofBytes, bytesL_ofBytes, bytesOf_ofBytes, ofBytes_plainL, ofBytes_length, AV.intOf, AV.isInt, fl, f7, f6, ii, hM]; done)
              | (simp [nbeq, nble, iltB_eq, ileB_eq, ieqB_eq, u8L_ofBytes, bytesL_ofBytes, bytesOf_ofBytes, ofBytes_plainL, ofBytes_length, AV.intOf, AV.isInt, fl, f7, f6, ii, hM]; omega))
          replace key := key (by
            (try simp only [kept_eq, bytesL_ofBytes, bytesOf_ofBytes, Option.getD_some, hr, f1, f2, f3, f4, f5, f6, f7, ii, k0, k1, k2, k3, k4, hz, zr, z1, m1, a2, a3, gl, gp, bp, AV.intOf])
            first
              | done
              | rfl
              | assumption
              | exact ofBytes_plainL _
              | exact u8L_ofBytes _
              | (simp [nbeq, nble, iltB_eq, ileB_eq, ieqB_eq, u8L_ofBytes, bytesL_ofBytes, bytesOf_ofBytes, ofBytes_plainL, ofBytes_length, AV.intOf, AV.isInt, fl, f7, f6, ii, hM]; done)
              | (simp [nbeq, nble, iltB_eq, ileB_eq, ieqB_eq, u8L_ofBytes, bytesL_ofBytes, bytesOf_ofBytes, ofBytes_plainL, ofBytes_length, AV.intOf, AV.isInt, fl, f7, f6, ii, hM]; omega))
          replace key := key (by
            (try simp only [kept_eq, bytesL_ofBytes, bytesOf_ofBytes, Option.getD_some, hr, f1, f2, f3, f4, f5, f6, f7, ii, k0, k1, k2, k3, k4, hz, zr, z1, m1, a2, a3, gl, gp, bp, AV.intOf])
            first
              | done
              | rfl
              | assumption
              | exact ofBytes_plainL _
              | exact u8L_ofBytes _
              | (simp [nbeq, nble, iltB_eq, ileB_eq, ieqB_eq, u8L_ofBytes, bytesL_ofBytes, bytesOf_ofBytes, ofBytes_plainL, ofBytes_length, AV.intOf, AV.isInt, fl, f7, f6, ii, hM]; done)
              | (simp [nbeq, nble, iltB_eq, ileB_eq, ieqB_eq, u8L_ofBytes, bytesL_ofBytes, bytesOf_ofBytes, ofBytes_plainL, ofBytes_length, AV.intOf, AV.isInt, fl, f7, f6, ii, hM]; omega))
          replace key := key (by
            (try simp only [kept_eq, bytesL_ofBytes, bytesOf_ofBytes, Option.getD_some, hr, f1, f2, f3, f4, f5, f6, f7, ii, k0, k1, k2, k3, k4, hz, zr, z1, m1, a2, a3, gl, gp, bp, AV.intOf])
            first
              | done
              | rfl
              | assumption
              | exact ofBytes_plainL _
              | exact u8L_ofBytes _
              | (simp [nbeq, nble, iltB_eq, ileB_eq, ieqB_eq, u8L_ofBytes, bytesL_ofBytes, bytesOf_ofBytes, ofBytes_plainL, ofBytes_length, AV.intOf, AV.isInt, fl, f7, f6, ii, hM]; done)
              | (simp [nbeq, nble, iltB_eq, ileB_eq, ieqB_eq, u8L_ofBytes, bytesL_ofBytes, bytesOf_ofBytes, ofBytes_plainL, ofBytes_length, AV.intOf, AV.isInt, fl, f7, f6, ii, hM]; omega))
          replace key := key (by
            (try simp only [kept_eq, bytesL_ofBytes, bytesOf_ofBytes, Option.getD_some, hr, f1, f2, f3, f4, f5, f6, f7, ii, k0, k1, k2, k3, k4, hz, zr, z1, m1, a2, a3, gl, gp, bp, AV.intOf])
            first
              | done
              | rfl
              | assumption
              | exact ofBytes_plainL _
              | exact u8L_ofBytes _
              | (simp [nbeq, nble, iltB_eq, ileB_eq, ieqB_eq, u8L_ofBytes, bytesL_ofBytes, bytesOf_ofBytes, ofBytes_plainL, ofBytes_length, AV.intOf, AV.isInt, fl, f7, f6, ii, hM]; done)
              | (simp [nbeq, nble, iltB_eq, ileB_eq, ieqB_eq, u8L_ofBytes, bytesL_ofBytes, bytesOf_ofBytes, ofBytes_plainL, ofBytes_length, AV.intOf, AV.isInt, fl, f7, f6, ii, hM]; omega))
          replace key := key (by
            (try simp only [kept_eq, bytesL_ofBytes, bytesOf_ofBytes, Option.getD_some, hr, f1, f2, f3, f4, f5, f6, f7, ii, k0, k1, k2, k3, k4, hz, zr, z1, m1, a2, a3, gl, gp, bp, AV.intOf])
            first
              | done
              | rfl
              | assumption
              | exact ofBytes_plainL _
              | exact u8L_ofBytes _
              | (simp [nbeq, nble, iltB_eq, ileB_eq, ieqB_eq, u8L_ofBytes, bytesL_ofBytes, bytesOf_ofBytes, ofBytes_plainL, ofBytes_length, AV.intOf, AV.isInt, fl, f7, f6, ii, hM]; done)
              | (simp [nbeq, nble, iltB_eq, ileB_eq, ieqB_eq, u8L_ofBytes, bytesL_ofBytes, bytesOf_ofBytes, ofBytes_plainL, ofBytes_length, AV.intOf, AV.isInt, fl, f7, f6, ii, hM]; omega))
          replace key := key (by
            (try simp only [kept_eq, bytesL_ofBytes, bytesOf_ofBytes, Option.getD_some, hr, f1, f2, f3, f4, f5, f6, f7, ii, k0, k1, k2, k3, k4, hz, zr, z1, m1, a2, a3, gl, gp, bp, AV.intOf])
            first
              | done
              | rfl
              | assumption
              | exact ofBytes_plainL _
              | exact u8L_ofBytes _
              | (simp [nbeq, nble, iltB_eq, ileB_eq, ieqB_eq, u8L_ofBytes, bytesL_ofBytes, bytesOf_ofBytes, ofBytes_plainL, ofBytes_length, AV.intOf, AV.isInt, fl, f7, f6, ii, hM]; done)
              | (simp [nbeq, nble, iltB_eq, ileB_eq, ieqB_eq, u8L_ofBytes, bytesL_ofBytes, bytesOf_ofBytes, ofBytes_plainL, ofBytes_length, AV.intOf, AV.isInt, fl, f7, f6, ii, hM]; omega))
          replace key := key (by
            (try simp only [kept_eq, bytesL_ofBytes, bytesOf_ofBytes, Option.getD_some, hr, f1, f2, f3, f4, f5, f6, f7, ii, k0, k1, k2, k3, k4, hz, zr, z1, m1, a2, a3, gl, gp, bp, AV.intOf])
            first
              | done
              | rfl
              | assumption
              | exact ofBytes_plainL _
              | exact u8L_ofBytes _
              | (simp [nbeq, nble, iltB_eq, ileB_eq, ieqB_eq, u8L_ofBytes, bytesL_ofBytes, bytesOf_ofBytes, ofBytes_plainL, ofBytes_length, AV.intOf, AV.isInt, fl, f7, f6, ii, hM]; done)
              | (simp [nbeq, nble, iltB_eq, ileB_eq, ieqB_eq, u8L_ofBytes, bytesL_ofBytes, bytesOf_ofBytes, ofBytes_plainL, ofBytes_length, AV.intOf, AV.isInt, fl, f7, f6, ii, hM]; omega))
          replace key := key (by
            (try simp only [kept_eq, bytesL_ofBytes, bytesOf_ofBytes, Option.getD_some, hr, f1, f2, f3, f4, f5, f6, f7, ii, k0, k1, k2, k3, k4, hz, zr, z1, m1, a2, a3, gl, gp, bp, AV.intOf])
            first
              | done
              | rfl
              | assumption
              | exact ofBytes_plainL _
              | exact u8L_ofBytes _
              | (simp [nbeq, nble, iltB_eq, ileB_eq, ieqB_eq, u8L_ofBytes, bytesL_ofBytes, bytesOf_ofBytes, ofBytes_plainL, ofBytes_length, AV.intOf, AV.isInt, fl, f7, f6, ii, hM]; done)
              | (simp [nbeq, nble, iltB_eq, ileB_eq, ieqB_eq, u8L_ofBytes, bytesL_ofBytes, bytesOf_ofBytes, ofBytes_plainL, ofBytes_length, AV.intOf, AV.isInt, fl, f7, f6, ii, hM]; omega))
          replace key := key (by
            (try simp only [kept_eq, bytesL_ofBytes, bytesOf_ofBytes, Option.getD_some, hr, f1, f2, f3, f4, f5, f6, f7, ii, k0, k1, k2, k3, k4, hz, zr, z1, m1, a2, a3, gl, gp, bp, AV.intOf])
            first
              | done
              | rfl
              | assumption
              | exact ofBytes_plainL _
              | exact u8L_ofBytes _
              | (simp [nbeq, nble, iltB_eq, ileB_eq, ieqB_eq, u8L_ofBytes, bytesL_ofBytes, bytesOf_ofBytes, ofBytes_plainL, ofBytes_length, AV.intOf, AV.isInt, fl, f7, f6, ii, hM]; done)
              | (simp [nbeq, nble, iltB_eq, ileB_eq, ieqB_eq, u8L_ofBytes, bytesL_ofBytes, bytesOf_ofBytes, ofBytes_plainL, ofBytes_length, AV.intOf, AV.isInt, fl, f7, f6, ii, hM]; omega))
          replace key := key (by
            (try simp only [kept_eq, bytesL_ofBytes, bytesOf_ofBytes, Option.getD_some, hr, f1, f2, f3, f4, f5, f6, f7, ii, k0, k1, k2, k3, k4, hz, zr, z1, m1, a2, a3, gl, gp, bp, AV.intOf])
            first
              | done
              | rfl
              | assumption
              | exact ofBytes_plainL _
              | exact u8L_ofBytes _
              | (simp [nbeq, nble, iltB_eq, ileB_eq, ieqB_eq, u8L_ofBytes, bytesL_ofBytes, bytesOf_ofBytes, ofBytes_plainL, ofBytes_length, AV.intOf, AV.isInt, fl, f7, f6, ii, hM]; done)
              | (simp [nbeq, nble, iltB_eq, ileB_eq, ieqB_eq, u8L_ofBytes, bytesL_ofBytes, bytesOf_ofBytes, ofBytes_plainL, ofBytes_length, AV.intOf, AV.isInt, fl, f7, f6, ii, hM]; omega))
          replace key := key (by
            (try simp only [kept_eq, bytesL_ofBytes, bytesOf_ofBytes, Option.getD_some, hr, f1, f2, f3, f4, f5, f6, f7, ii, k0, k1, k2, k3, k4, hz, zr, z1, m1, a2, a3, gl, gp, bp, AV.intOf])
            first
              | done
              | rfl
              | assumption
              | exact ofBytes_plainL _
              | exact u8L_ofBytes _
              | (simp [nbeq, nble, iltB_eq, ileB_eq, ieqB_eq, u8L_ofBytes, bytesL_ofBytes, bytesOf_ofBytes, ofBytes_plainL, ofBytes_length, AV.intOf, AV.isInt, fl, f7, f6, ii, hM]; done)
              | (simp [nbeq, nble, iltB_eq, ileB_eq, ieqB_eq, u8L_ofBytes, bytesL_ofBytes, bytesOf_ofBytes, ofBytes_plainL, ofBytes_length, AV.intOf, AV.isInt, fl, f7, f6, ii, hM]; omega))
          replace key := key (by
            (try simp only [kept_eq, bytesL_ofBytes, bytesOf_ofBytes, Option.getD_some, hr, f1, f2, f3, f4, f5, f6, f7, ii, k0, k1, k2, k3, k4, hz, zr, z1, m1, a2, a3, gl, gp, bp, AV.intOf])
            first
              | done
              | rfl
              | assumption
              | exact ofBytes_plainL _
              | exact u8L_ofBytes _
              | (simp [nbeq, nble, iltB_eq, ileB_eq, ieqB_eq, u8L_ofBytes, bytesL_ofBytes, bytesOf_ofBytes, ofBytes_plainL, ofBytes_length, AV.intOf, AV.isInt, fl, f7, f6, ii, hM]; done)
              | (simp [nbeq, nble, iltB_eq, ileB_eq, ieqB_eq, u8L_ofBytes, bytesL_ofBytes, bytesOf_ofBytes, ofBytes_plainL, ofBytes_length, AV.intOf, AV.isInt, fl, f7, f6, ii, hM]; omega))
          replace key := key (by
            (try simp only [kept_eq, bytesL_ofBytes, bytesOf_ofBytes, Option.getD_some, hr, f1, f2, f3, f4, f5, f6, f7, ii, k0, k1, k2, k3, k4, hz, zr, z1, m1, a2, a3, gl, gp, bp, AV.intOf])
            first
              | done
              | rfl
              | assumption
              | exact ofBytes_plainL _
              | exact u8L_ofBytes _
              | (simp [nbeq, nble, iltB_eq, ileB_eq, ieqB_eq, u8L_ofBytes, bytesL_ofBytes, bytesOf_ofBytes, ofBytes_plainL, ofBytes_length, AV.intOf, AV.isInt, fl, f7, f6, ii, hM]; done)
              | (simp [nbeq, nble, iltB_eq, ileB_eq, ieqB_eq, u8L_ofBytes, bytesL_ofBytes, bytesOf_ofBytes, ofBytes_plainL, ofBytes_length, AV.intOf, AV.isInt, fl, f7, f6, ii, hM]; omega))
          replace key := key (by
            (try simp only [kept_eq, bytesL_ofBytes, bytesOf_ofBytes, Option.getD_some, hr, f1, f2, f3, f4, f5, f6, f7, ii, k0, k1, k2, k3, k4, hz, zr, z1, m1, a2, a3, gl, gp, bp, AV.intOf])
            first
              | done
              | rfl
              | assumption
              | exact ofBytes_plainL _
              | exact u8L_ofBytes _
              | (simp [nbeq, nble, iltB_eq, ileB_eq, ieqB_eq, u8L_ofBytes, bytesL_ofBytes, bytesOf_ofBytes, ofBytes_plainL, ofBytes_length, AV.intOf, AV.isInt, fl, f7, f6, ii, hM]; done)
              | (simp [nbeq, nble, iltB_eq, ileB_eq, ieqB_eq, u8L_ofBytes, bytesL_ofBytes, bytesOf_ofBytes, ofBytes_plainL, ofBytes_length, AV.intOf, AV.isInt, fl, f7, f6, ii, hM]; omega))
          replace key := key (by
            (try simp only [kept_eq, bytesL_ofBytes, bytesOf_ofBytes, Option.getD_some, hr, f1, f2, f3, f4, f5, f6, f7, ii, k0, k1, k2, k3, k4, hz, zr, z1, m1, a2, a3, gl, gp, bp, AV.intOf])
            first
              | done
              | rfl
              | assumption
              | exact ofBytes_plainL _
              | exact u8L_ofBytes _
              | (simp [nbeq, nble, iltB_eq, ileB_eq, ieqB_eq, u8L_ofBytes, bytesL_ofBytes, bytesOf_ofBytes, ofBytes_plainL, ofBytes_length, AV.intOf, AV.isInt, fl, f7, f6, ii, hM]; done)
              | (simp [nbeq, nble, iltB_eq, ileB_eq, ieqB_eq, u8L_ofBytes, bytesL_ofBytes, bytesOf_ofBytes, ofBytes_plainL, ofBytes_length, AV.intOf, AV.isInt, fl, f7, f6, ii, hM]; omega))
          replace key := key (by
            (try simp only [kept_eq, bytesL_ofBytes, bytesOf_ofBytes, Option.getD_some, hr, f1, f2, f3, f4, f5, f6, f7, ii, k0, k1, k2, k3, k4, hz, zr, z1, m1, a2, a3, gl, gp, bp, AV.intOf])
            first
              | done
              | rfl
              | assumption
              | exact ofBytes_plainL _
              | exact u8L_ofBytes _
              | (simp [nbeq, nble, iltB_eq, ileB_eq, ieqB_eq, u8L_ofBytes, bytesL_ofBytes, bytesOf_ofBytes, ofBytes_plainL, ofBytes_length, AV.intOf, AV.isInt, fl, f7, f6, ii, hM]; done)
              | (simp [nbeq, nble, iltB_eq, ileB_eq, ieqB_eq, u8L_ofBytes, bytesL_ofBytes, bytesOf_ofBytes, ofBytes_plainL, ofBytes_length, AV.intOf, AV.isInt, fl, f7, f6, ii, hM]; omega))
          replace key := key (by
            (try simp only [kept_eq, bytesL_ofBytes, bytesOf_ofBytes, Option.getD_some, hr, f1, f2, f3, f4, f5, f6, f7, ii, k0, k1, k2, k3, k4, hz, zr, z1, m1, a2, a3, gl, gp, bp, AV.intOf])
            first
              | done
              | rfl
              | assumption
              | exact ofBytes_plainL _
              | exact u8L_ofBytes _
              | (simp [nbeq, nble, iltB_eq, ileB_eq, ieqB_eq, u8L_ofBytes, bytesL_ofBytes, bytesOf_ofBytes, ofBytes_plainL, ofBytes_length, AV.intOf, AV.isInt, fl, f7, f6, ii, hM]; done)
              | (simp [nbeq, nble, iltB_eq, ileB_eq, ieqB_eq, u8L_ofBytes, bytesL_ofBytes, bytesOf_ofBytes, ofBytes_plainL, ofBytes_length, AV.intOf, AV.isInt, fl, f7, f6, ii, hM]; omega))
          replace key := key (by
            (try simp only [kept_eq, bytesL_ofBytes, bytesOf_ofBytes, Option.getD_some, hr, f1, f2, f3, f4, f5, f6, f7, ii, k0, k1, k2, k3, k4, hz, zr, z1, m1, a2, a3, gl, gp, bp, AV.intOf])
            first
              | done
              | rfl
              | assumption
              | exact ofBytes_plainL _
              | exact u8L_ofBytes _
              | (simp [nbeq, nble, iltB_eq, ileB_eq, ieqB_eq, u8L_ofBytes, bytesL_ofBytes, bytesOf_ofBytes, ofBytes_plainL, ofBytes_length, AV.intOf, AV.isInt, fl, f7, f6, ii, hM]; done)
              | (simp [nbeq, nble, iltB_eq, ileB_eq, ieqB_eq, u8L_ofBytes, bytesL_ofBytes, bytesOf_ofBytes, ofBytes_plainL, ofBytes_length, AV.intOf, AV.isInt, fl, f7, f6, ii, hM]; omega))
          replace key := key (by
            (try simp only [kept_eq, bytesL_ofBytes, bytesOf_ofBytes, Option.getD_some, hr, f1, f2, f3, f4, f5, f6, f7, ii, k0, k1, k2, k3, k4, hz, zr, z1, m1, a2, a3, gl, gp, bp, AV.intOf])
            first
              | done
              | rfl
              | assumption
              | exact ofBytes_plainL _
              | exact u8L_ofBytes _
              | (simp [nbeq, nble, iltB_eq, ileB_eq, ieqB_eq, u8L_ofBytes, bytesL_ofBytes, bytesOf_ofBytes, ofBytes_plainL, ofBytes_length, AV.intOf, AV.isInt, fl, f7, f6, ii, hM]; done)
              | (simp [nbeq, nble, iltB_eq, ileB_eq, ieqB_eq, u8L_ofBytes, bytesL_ofBytes, bytesOf_ofBytes, ofBytes_plainL, ofBytes_length, AV.intOf, AV.isInt, fl, f7, f6, ii, hM]; omega))
          replace key := key (by
            (try simp only [kept_eq, bytesL_ofBytes, bytesOf_ofBytes, Option.getD_some, hr, f1, f2, f3, f4, f5, f6, f7, ii, k0, k1, k2, k3, k4, hz, zr, z1, m1, a2, a3, gl, gp, bp, AV.intOf])
            first
              | done
              | rfl
              | assumption
              | exact ofBytes_plainL _
              | exact u8L_ofBytes _
              | (simp [nbeq, nble, iltB_eq, ileB_eq, ieqB_eq, u8L_ofBytes, bytesL_ofBytes, bytesOf_ofBytes, ofBytes_plainL, ofBytes_length, AV.intOf, AV.isInt, fl, f7, f6, ii, hM]; done)
              | (simp [nbeq, nble, iltB_eq, ileB_eq, ieqB_eq, u8L_ofBytes, bytesL_ofBytes, bytesOf_ofBytes, ofBytes_plainL, ofBytes_length, AV.intOf, AV.isInt, fl, f7, f6, ii, hM]; omega))
          replace key := key (by
            (try simp only [kept_eq, bytesL_ofBytes, bytesOf_ofBytes, Option.getD_some, hr, f1, f2, f3, f4, f5, f6, f7, ii, k0, k1, k2, k3, k4, hz, zr, z1, m1, a2, a3, gl, gp, bp, AV.intOf])
            first
              | done
              | rfl
              | assumption
              | exact ofBytes_plainL _
              | exact u8L_ofBytes _
              | (simp [nbeq, nble, iltB_eq, ileB_eq, ieqB_eq, u8L_ofBytes, bytesL_ofBytes, bytesOf_ofBytes, ofBytes_plainL, ofBytes_length, AV.intOf, AV.isInt, fl, f7, f6, ii, hM]; done)
              | (simp [nbeq, nble, iltB_eq, ileB_eq, ieqB_eq, u8L_ofBytes, bytesL_ofBytes, bytesOf_ofBytes, ofBytes_plainL, ofBytes_length, AV.intOf, AV.isInt, fl, f7, f6, ii, hM]; omega))
          replace key := key (by
            (try simp only [kept_eq, bytesL_ofBytes, bytesOf_ofBytes, Option.getD_some, hr, f1, f2, f3, f4, f5, f6, f7, ii, k0, k1, k2, k3, k4, hz, zr, z1, m1, a2, a3, gl, gp, bp, AV.intOf])
            first
              | done
              | rfl
              | assumption
              | exact ofBytes_plainL _
              | exact u8L_ofBytes _
              | (simp [nbeq, nble, iltB_eq, ileB_eq, ieqB_eq, u8L_ofBytes, bytesL_ofBytes, bytesOf_ofBytes, ofBytes_plainL, ofBytes_length, AV.intOf, AV.isInt, fl, f7, f6, ii, hM]; done)
              | (simp [nbeq, nble, iltB_eq, ileB_eq, ieqB_eq, u8L_ofBytes, bytesL_ofBytes, bytesOf_ofBytes, ofBytes_plainL, ofBytes_length, AV.intOf, AV.isInt, fl, f7, f6, ii, hM]; omega))
          replace key := key (by
            (try simp only [kept_eq, bytesL_ofBytes, bytesOf_ofBytes, Option.getD_some, hr, f1, f2, f3, f4, f5, f6, f7, ii, k0, k1, k2, k3, k4, hz, zr, z1, m1, a2, a3, gl, gp, bp, AV.intOf])
            first
              | done
              | rfl
              | assumption
              | exact ofBytes_plainL _
              | exact u8L_ofBytes _
              | (simp [nbeq, nble, iltB_eq, ileB_eq, ieqB_eq, u8L_ofBytes, bytesL_ofBytes, bytesOf_ofBytes, ofBytes_plainL, ofBytes_length, AV.intOf, AV.isInt, fl, f7, f6, ii, hM]; done)
              | (simp [nbeq, nble, iltB_eq, ileB_eq, ieqB_eq, u8L_ofBytes, bytesL_ofBytes, bytesOf_ofBytes, ofBytes_plainL, ofBytes_length, AV.intOf, AV.isInt, fl, f7, f6, ii, hM]; omega))
          replace key := key (by
            (try simp only [kept_eq, bytesL_ofBytes, bytesOf_ofBytes, Option.getD_some, hr, f1, f2, f3, f4, f5, f6, f7, ii, k0, k1, k2, k3, k4, hz, zr, z1, m1, a2, a3, gl, gp, bp, AV.intOf])
            first
              | done
              | rfl
              | assumption
              | exact ofBytes_plainL _
              | exact u8L_ofBytes _
              | (simp [nbeq, nble, iltB_eq, ileB_eq, ieqB_eq, u8L_ofBytes, bytesL_ofBytes, bytesOf_ofBytes, ofBytes_plainL, ofBytes_length, AV.intOf, AV.isInt, fl, f7, f6, ii, hM]; done)
              | (simp [nbeq, nble, iltB_eq, ileB_eq, ieqB_eq, u8L_ofBytes, bytesL_ofBytes, bytesOf_ofBytes, ofBytes_plainL, ofBytes_length, AV.intOf, AV.isInt, fl, f7, f6, ii, hM]; omega))
          obtain ⟨h', h, _⟩ := key
          refine ⟨h', h.trans ?_⟩
          (try simp only [kept_eq, bytesL_ofBytes, bytesOf_ofBytes, Option.getD_some, hr, f1, f2, f3, f4, f5, f6, f7, ii, k0, k1, k2, k3, k4, hz, zr, z1, m1, a2, a3, gl, gp, bp, AV.intOf])
          first
            | done
            | rfl
            | (simp [fl, f7, f6, ii, hM]; done)
  | false =>
    cases w with
    | false =>
      cases hz : isCB b with
      | true =>
        have z1 := commitB_of hz
        have zr : rightC (byteI b 2) (byteI b 3) = true := by
          have hz2 := hz
          unfold isCB at hz2
          simp only [Bool.and_eq_true] at hz2
          exact hz2.1.2
        have key := sc_n_y s c g a b.length (ofBytes b)
        replace key := key (by
          (try simp only [kept_eq, bytesL_ofBytes, bytesOf_ofBytes, Option.getD_some, hr, f7, ii, k0, hz, zr, z1, gl, gp, bp, AV.intOf])
          first
            | done
            | rfl
            | assumption
            | exact ofBytes_plainL _
            | exact u8L_ofBytes _
            | (simp [nbeq, nble, iltB_eq, ileB_eq, ieqB_eq, u8L_ofBytes, bytesL_ofBytes, bytesOf_ofBytes, ofBytes_plainL, ofBytes_length, AV.intOf, AV.isInt, f7, ii]; done)
            | (simp [nbeq, nble, iltB_eq, ileB_eq, ieqB_eq, u8L_ofBytes, bytesL_ofBytes, bytesOf_ofBytes, ofBytes_plainL, ofBytes_length, AV.intOf, AV.isInt, f7, ii]; omega))
        replace key := key (by
          (try simp only [kept_eq, bytesL_ofBytes, bytesOf_ofBytes, Option.getD_some, hr, f7, ii, k0, hz, zr, z1, gl, gp, bp, AV.intOf])
          first
            | done
            | rfl
            | assumption
            | exact ofBytes_plainL _
            | exact u8L_ofBytes _
            | (simp [nbeq, nble, iltB_eq, ileB_eq, ieqB_eq, u8L_ofBytes, bytesL_ofBytes, bytesOf_ofBytes, ofBytes_plainL, ofBytes_length, AV.intOf, AV.isInt, f7, ii]; done)
            | (simp [nbeq, nble, iltB_eq, ileB_eq, ieqB_eq, u8L_ofBytes, bytesL_ofBytes, bytesOf_ofBytes, ofBytes_plainL, ofBytes_length, AV.intOf, AV.isInt, f7, ii]; omega))
        replace key := key (by
          (try simp only [kept_eq, bytesL_ofBytes, bytesOf_ofBytes, Option.getD_some, hr, f7, ii, k0, hz, zr, z1, gl, gp, bp, AV.intOf])
          first
            | done
            | rfl
            | assumption
            | exact ofBytes_plainL _
            | exact u8L_ofBytes _
            | (simp [nbeq, nble, iltB_eq, ileB_eq, ieqB_eq, u8L_ofBytes, bytesL_ofBytes, bytesOf_ofBytes, ofBytes_plainL, ofBytes_length, AV.intOf, AV.isInt, f7, ii]; done)
            | (simp [nbeq, nble, iltB_eq, ileB_eq, ieqB_eq, u8L_ofBytes, bytesL_ofBytes, bytesOf_ofBytes, ofBytes_plainL, ofBytes_length, AV.intOf, AV.isInt, f7, ii]; omega))
        replace key := key (by
          (try simp only [kept_eq, bytesL_ofBytes, bytesOf_ofBytes, Option.getD_some, hr, f7, ii, k0, hz, zr, z1, gl, gp, bp, AV.intOf])
          first
            | done
            | rfl
            | assumption
            | exact ofBytes_plainL _
            | exact u8L_ofBytes _
            | (simp [nbeq, nble, iltB_eq, ileB_eq, ieqB_eq, u8L_ofBytes, bytesL_ofBytes, bytesOf_ofBytes, ofBytes_plainL, ofBytes_length, AV.intOf, AV.isInt, f7, ii]; done)
            | (simp [nbeq, nble, iltB_eq, ileB_eq, ieqB_eq, u8L_ofBytes, bytesL_ofBytes, bytesOf_ofBytes, ofBytes_plainL, ofBytes_length, AV.intOf, AV.isInt, f7, ii]; omega))
        replace key := key (by
          (try simp only [kept_eq, bytesL_ofBytes, bytesOf_ofBytes, Option.getD_some, hr, f7, ii, k0, hz, zr, z1, gl, gp, bp, AV.intOf])
          first
            | done
            | rfl
            | assumption
            | exact ofBytes_plainL _
            | exact u8L_ofBytes _
            | (simp [nbeq, nble, iltB_eq, ileB_eq, ieqB_eq, u8L_ofBytes, bytesL_ofBytes, bytesOf_ofBytes, ofBytes_plainL, ofBytes_length, AV.intOf, AV.isInt, f7, ii]; done)
            | (simp [nbeq, nble, iltB_eq, ileB_eq, ieqB_eq, u8L_ofBytes, bytesL_ofBytes, bytesOf_ofBytes, ofBytes_plainL, ofBytes_length, AV.intOf, AV.isInt, f7, ii]; omega))
        replace key := key (by
          (try simp only [kept_eq, bytesL_ofBytes, bytesOf_ofBytes, Option.getD_some, hr, f7, ii, k0, hz, zr, z1, gl, gp, bp, AV.intOf])
          first
            | done
            | rfl
            | assumption
            | exact ofBytes_plainL _
            | exact u8L_ofBytes _
            | (simp [nbeq, nble, iltB_eq, ileB_eq, ieqB_eq, u8L_ofBytes, bytesL_ofBytes, bytesOf_ofBytes, ofBytes_plainL, ofBytes_length, AV.intOf, AV.isInt, f7, ii]; done)
            | (simp [nbeq, nble, iltB_eq, ileB_eq, ieqB_eq, u8L_ofBytes, bytesL_ofBytes, bytesOf_ofBytes, ofBytes_plainL, ofBytes_length, AV.intOf, AV.isInt, f7, ii]; omega))
        replace key := key (by
          (try simp only [kept_eq, bytesL_ofBytes, bytesOf_ofBytes, Option.getD_some, hr, f7, ii, k0, hz, zr, z1, gl, gp, bp, AV.intOf])
          first
            | done
            | rfl
            | assumption
            | exact ofBytes_plainL _
            | exact u8L_ofBytes _
            | (simp [nbeq, nble, iltB_eq, ileB_eq, ieqB_eq, u8L_ofBytes, bytesL_ofBytes, bytesOf_ofBytes, ofBytes_plainL, ofBytes_length, AV.intOf, AV.isInt, f7, ii]; done)
            | (simp [nbeq, nble, iltB_eq, ileB_eq, ieqB_eq, u8L_ofBytes, bytesL_ofBytes, bytesOf_ofBytes, ofBytes_plainL, ofBytes_length, AV.intOf, AV.isInt, f7, ii]; omega))
        replace key := key (by
          (try simp only [kept_eq, bytesL_ofBytes, bytesOf_ofBytes, Option.getD_some, hr, f7, ii, k0, hz, zr, z1, gl, gp, bp, AV.intOf])
          first
            | done
            | rfl
            | assumption
            | exact ofBytes_plainL _
            | exact u8L_ofBytes _
            | (simp [nbeq, nble, iltB_eq, ileB_eq, ieqB_eq, u8L_ofBytes, bytesL_ofBytes, bytesOf_ofBytes, ofBytes_plainL, ofBytes_length, AV.intOf, AV.isInt, f7, ii]; done)
            | (simp [nbeq, nble, iltB_eq, ileB_eq, ieqB_eq, u8L_ofBytes, bytesL_ofBytes, bytesOf_ofBytes, ofBytes_plainL, ofBytes_length, AV.intOf, AV.isInt, f7, ii]; omega))
        replace key := key (by
          (try simp only [kept_eq, bytesL_ofBytes, bytesOf_ofBytes, Option.getD_some, hr, f7, ii, k0, hz, zr, z1, gl, gp, bp, AV.intOf])
          first
            | done
            | rfl
            | assumption
            | exact ofBytes_plainL _
            | exact u8L_ofBytes _
            | (simp [nbeq, nble, iltB_eq, ileB_eq, ieqB_eq, u8L_ofBytes, bytesL_ofBytes, bytesOf_ofBytes, ofBytes_plainL, ofBytes_length, AV.intOf, AV.isInt, f7, ii]; done)
            | (simp [nbeq, nble, iltB_eq, ileB_eq, ieqB_eq, u8L_ofBytes, bytesL_ofBytes, bytesOf_ofBytes, ofBytes_plainL, ofBytes_length, AV.intOf, AV.isInt, f7, ii]; omega))
        replace key := key (by
          (try simp only [kept_eq, bytesL_ofBytes, bytesOf_ofBytes, Option.getD_some, hr, f7, ii, k0, hz, zr, z1, gl, gp, bp, AV.intOf])
          first
            | done
            | rfl
            | assumption
            | exact ofBytes_plainL _
            | exact u8L_ofBytes _
            | (simp [nbeq, nble, iltB_eq, ileB_eq, ieqB_eq, u8L_ofBytes, bytesL_ofBytes, bytesOf_ofBytes, ofBytes_plainL, ofBytes_length, AV.intOf, AV.isInt, f7, ii]; done)
            | (simp [nbeq, nble, iltB_eq, ileB_eq, ieqB_eq, u8L_ofBytes, bytesL_ofBytes, bytesOf_ofBytes, ofBytes_plainL, ofBytes_length, AV.intOf, AV.isInt, f7, ii]; omega))
        replace key := key (by
          (try simp only [kept_eq, bytesL_ofBytes, bytesOf_ofBytes, Option.getD_some, hr, f7, ii, k0, hz, zr, z1, gl, gp, bp, AV.intOf])
          first
            | done
            | rfl
            | assumption
            | exact ofBytes_plainL _
            | exact u8L_ofBytes _
            | (simp [nbeq, nble, iltB_eq, ileB_eq, ieqB_eq, u8L_ofBytes, bytesL_ofBytes, bytesOf_ofBytes, ofBytes_plainL, ofBytes_length, AV.intOf, AV.isInt, f7, ii]; done)
            | (simp [nbeq, nble, iltB_eq, ileB_eq, ieqB_eq, u8L_ofBytes, bytesL_ofBytes, bytesOf_ofBytes, ofBytes_plainL, ofBytes_length, AV.intOf, AV.isInt, f7, ii]; omega))
        replace key := key (by
          (try simp only [kept_eq, bytesL_ofBytes, bytesOf_ofBytes, Option.getD_some, hr, f7, ii, k0, hz, zr, z1, gl, gp, bp, AV.intOf])
          first
            | done
            | rfl
            | assumption
            | exact ofBytes_plainL _
            | exact u8L_ofBytes _
            | (simp [nbeq, nble, iltB_eq, ileB_eq, ieqB_eq, u8L_ofBytes, bytesL_ofBytes, bytesOf_ofBytes, ofBytes_plainL, ofBytes_length, AV.intOf, AV.isInt, f7, ii]; done)
            | (simp [nbeq, nble, iltB_eq, ileB_eq, ieqB_eq, u8L_ofBytes, bytesL_ofBytes, bytesOf_ofBytes, ofBytes_plainL, ofBytes_length, AV.intOf, AV.isInt, f7, ii]; omega))
        replace key := key (by
          (try simp only [kept_eq, bytesL_ofBytes, bytesOf_ofBytes, Option.getD_some, hr, f7, ii, k0, hz, zr, z1, gl, gp, bp, AV.intOf])
          first
            | done
            | rfl
            | assumption
            | exact ofBytes_plainL _
            | exact u8L_ofBytes _
            | (simp [nbeq, nble, iltB_eq, ileB_eq, ieqB_eq, u8L_ofBytes, bytesL_ofBytes, bytesOf_ofBytes, ofBytes_plainL, ofBytes_length, AV.intOf, AV.isInt, f7, ii]; done)
            | (simp [nbeq, nble, iltB_eq, ileB_eq, ieqB_eq, u8L_ofBytes, bytesL_ofBytes, bytesOf_ofBytes, ofBytes_plainL, ofBytes_length, AV.intOf, AV.isInt, f7, ii]; omega))
        obtain ⟨h', h, _⟩ := key
        refine ⟨h', h.trans ?_⟩
        (try simp only [kept_eq, bytesL_ofBytes, bytesOf_ofBytes, Option.getD_some, hr, f7, ii, k0, hz, zr, z1, gl, gp, bp, AV.intOf])
        first
          | done
          | rfl
          | (simp [f7, ii]; done)
      | false =>
        by_cases hl : b.length = 512
        case neg =>
          have zl : (!ieqB (Int.ofNat b.length) (Int.ofNat 512)) = true := by rw [ieqB_eq]; simp; exact fun e => hl (by omega)
          have key := sc_n_n1 s c g a b.length (ofBytes b)
          replace key := key (by
            (try simp only [kept_eq, bytesL_ofBytes, bytesOf_ofBytes, Option.getD_some, hr, f7, ii, k0, hz, zl, AV.intOf])
            first
              | done
              | rfl
              | assumption
              | exact ofBytes_plainL _
              | exact u8L_ofBytes _
              | (simp [nbeq, nble, iltB_eq, ileB_eq, ieqB_eq, u8L_ofBytes, bytesL_ofBytes, bytesOf_ofBytes, ofBytes_plainL, ofBytes_length, AV.intOf, AV.isInt, f7, ii]; done)
              | (simp [nbeq, nble, iltB_eq, ileB_eq, ieqB_eq, u8L_ofBytes, bytesL_ofBytes, bytesOf_ofBytes, ofBytes_plainL, ofBytes_length, AV.intOf, AV.isInt, f7, ii]; omega))
          replace key := key (by
            (try simp only [kept_eq, bytesL_ofBytes, bytesOf_ofBytes, Option.getD_some, hr, f7, ii, k0, hz, zl, AV.intOf])
            first
              | done
              | rfl
              | assumption
              | exact ofBytes_plainL _
              | exact u8L_ofBytes _
              | (simp [nbeq, nble, iltB_eq, ileB_eq, ieqB_eq, u8L_ofBytes, bytesL_ofBytes, bytesOf_ofBytes, ofBytes_plainL, ofBytes_length, AV.intOf, AV.isInt, f7, ii]; done)
              | (simp [nbeq, nble, iltB_eq, ileB_eq, ieqB_eq, u8L_ofBytes, bytesL_ofBytes, bytesOf_ofBytes, ofBytes_plainL, ofBytes_length, AV.intOf, AV.isInt, f7, ii]; omega))
          replace key := key (by
            (try simp only [kept_eq, bytesL_ofBytes, bytesOf_ofBytes, Option.getD_some, hr, f7, ii, k0, hz, zl, AV.intOf])
            first
              | done
              | rfl
              | assumption
              | exact ofBytes_plainL _
              | exact u8L_ofBytes _
              | (simp [nbeq, nble, iltB_eq, ileB_eq, ieqB_eq, u8L_ofBytes, bytesL_ofBytes, bytesOf_ofBytes, ofBytes_plainL, ofBytes_length, AV.intOf, AV.isInt, f7, ii]; done)
              | (simp [nbeq, nble, iltB_eq, ileB_eq, ieqB_eq, u8L_ofBytes, bytesL_ofBytes, bytesOf_ofBytes, ofBytes_plainL, ofBytes_length, AV.intOf, AV.isInt, f7, ii]; omega))
          replace key := key (by
            (try simp only [kept_eq, bytesL_ofBytes, bytesOf_ofBytes, Option.getD_some, hr, f7, ii, k0, hz, zl, AV.intOf])
            first
              | done
              | rfl
              | assumption
              | exact ofBytes_plainL _
              | exact u8L_ofBytes _
              | (simp [nbeq, nble, iltB_eq, ileB_eq, ieqB_eq, u8L_ofBytes, bytesL_ofBytes, bytesOf_ofBytes, ofBytes_plainL, ofBytes_length, AV.intOf, AV.isInt, f7, ii]; done)
              | (simp [nbeq, nble, iltB_eq, ileB_eq, ieqB_eq, u8L_ofBytes, bytesL_ofBytes, bytesOf_ofBytes, ofBytes_plainL, ofBytes_length, AV.intOf, AV.isInt, f7, ii]; omega))
          replace key := key (by
            (try simp only [kept_eq, bytesL_ofBytes, bytesOf_ofBytes, Option.getD_some, hr, f7, ii, k0, hz, zl, AV.intOf])
            first
              | done
              | rfl
              | assumption
              | exact ofBytes_plainL _
              | exact u8L_ofBytes _
              | (simp [nbeq, nble, iltB_eq, ileB_eq, ieqB_eq, u8L_ofBytes, bytesL_ofBytes, bytesOf_ofBytes, ofBytes_plainL, ofBytes_length, AV.intOf, AV.isInt, f7, ii]; done)
              | (simp [nbeq, nble, iltB_eq, ileB_eq, ieqB_eq, u8L_ofBytes, bytesL_ofBytes, bytesOf_ofBytes, ofBytes_plainL, ofBytes_length, AV.intOf, AV.isInt, f7, ii]; omega))
          replace key := key (by
            (try simp only [kept_eq, bytesL_ofBytes, bytesOf_ofBytes, Option.getD_some, hr, f7, ii, k0, hz, zl, AV.intOf])
            first
              | done
              | rfl
              | assumption
              | exact ofBytes_plainL _
              | exact u8L_ofBytes _
              | (simp [nbeq, nble, iltB_eq, ileB_eq, ieqB_eq, u8L_ofBytes, bytesL_ofBytes, bytesOf_ofBytes, ofBytes_plainL, ofBytes_length, AV.intOf, AV.isInt, f7, ii]; done)
              | (simp [nbeq, nble, iltB_eq, ileB_eq, ieqB_eq, u8L_ofBytes, bytesL_ofBytes, bytesOf_ofBytes, ofBytes_plainL, ofBytes_length, AV.intOf, AV.isInt, f7, ii]; omega))
          replace key := key (by
            (try simp only [kept_eq, bytesL_ofBytes, bytesOf_ofBytes, Option.getD_some, hr, f7, ii, k0, hz, zl, AV.intOf])
            first
              | done
              | rfl
              | assumption
              | exact ofBytes_plainL _
              | exact u8L_ofBytes _
              | (simp [nbeq, nble, iltB_eq, ileB_eq, ieqB_eq, u8L_ofBytes, bytesL_ofBytes, bytesOf_ofBytes, ofBytes_plainL, ofBytes_length, AV.intOf, AV.isInt, f7, ii]; done)
              | (simp [nbeq, nble, iltB_eq, ileB_eq, ieqB_eq, u8L_ofBytes, bytesL_ofBytes, bytesOf_ofBytes, ofBytes_plainL, ofBytes_length, AV.intOf, AV.isInt, f7, ii]; omega))
          replace key := key (by
            (try simp only [kept_eq, bytesL_ofBytes, bytesOf_ofBytes, Option.getD_some, hr, f7, ii, k0, hz, zl, AV.intOf])
            first
              | done
              | rfl
              | assumption
              | exact ofBytes_plainL _
              | exact u8L_ofBytes _
              | (simp [nbeq, nble, iltB_eq, ileB_eq, ieqB_eq, u8L_ofBytes, bytesL_ofBytes, bytesOf_ofBytes, ofBytes_plainL, ofBytes_length, AV.intOf, AV.isInt, f7, ii]; done)
              | (simp [nbeq, nble, iltB_eq, ileB_eq, ieqB_eq, u8L_ofBytes, bytesL_ofBytes, bytesOf_ofBytes, ofBytes_plainL, ofBytes_length, AV.intOf, AV.isInt, f7, ii]; omega))
          replace key := key (by
            (try simp only [kept_eq, bytesL_ofBytes, bytesOf_ofBytes, Option.getD_some, hr, f7, ii, k0, hz, zl, AV.intOf])
            first
              | done
              | rfl
              | assumption
              | exact ofBytes_plainL _
              | exact u8L_ofBytes _
              | (simp [nbeq, nble, iltB_eq, ileB_eq, ieqB_eq, u8L_ofBytes, bytesL_ofBytes, bytesOf_ofBytes, ofBytes_plainL, ofBytes_length, AV.intOf, AV.isInt, f7, ii]; done)
              | (simp [nbeq, nble, iltB_eq, ileB_eq, ieqB_eq, u8L_ofBytes, bytesL_ofBytes, bytesOf_ofBytes, ofBytes_plainL, ofBytes_length, AV.intOf, AV.isInt, f7, ii]; omega))
          obtain ⟨h', h, _⟩ := key
          refine ⟨h', h.trans ?_⟩
          (try simp only [kept_eq, bytesL_ofBytes, bytesOf_ofBytes, Option.getD_some, hr, f7, ii, k0, hz, zl, AV.intOf])
          first
            | done
            | rfl
            | (simp [f7, ii]; done)
        have zl : (!ieqB (Int.ofNat b.length) (Int.ofNat 512)) = false := by rw [hl]; rfl
        have a2 : (listAt (List.drop 2 (ofBytes b)) 0).getD AV.undef = .int .u8 (byteI b 2) := at_one b 2 (by omega)
        have a3 : (listAt (List.drop 3 (ofBytes b)) 0).getD AV.undef = .int .u8 (byteI b 3) := at_one b 3 (by omega)
        cases zr : rightC (byteI b 2) (byteI b 3) with
        | true =>
          have z1 := not_commitB hz zr (genI_lt b)
          have key := sc_n_n2 s c g a b.length (ofBytes b)
          replace key := key (by
            (try simp only [kept_eq, bytesL_ofBytes, bytesOf_ofBytes, Option.getD_some, hr, f7, ii, k0, hz, zl, zr, z1, a2, a3, gl, gp, bp, AV.intOf])
            first
              | done
              | rfl
              | assumption
              | exact ofBytes_plainL _
              | exact u8L_ofBytes _
              | (simp [nbeq, nble, iltB_eq, ileB_eq, ieqB_eq, u8L_ofBytes, bytesL_ofBytes, bytesOf_ofBytes, ofBytes_plainL, ofBytes_length, AV.intOf, AV.isInt, f7, ii, hl]; done)
              | (simp [nbeq, nble, iltB_eq, ileB_eq, ieqB_eq, u8L_ofBytes, bytesL_ofBytes, bytesOf_ofBytes, ofBytes_plainL, ofBytes_length, AV.intOf, AV.isInt, f7, ii, hl]; omega))
          replace key := key (by
            (try simp only [kept_eq, bytesL_ofBytes, bytesOf_ofBytes, Option.getD_some, hr, f7, ii, k0, hz, zl, zr, z1, a2, a3, gl, gp, bp, AV.intOf])
            first
              | done
              | rfl
              | assumption
              | exact ofBytes_plainL _
              | exact u8L_ofBytes _
              | (simp [nbeq, nble, iltB_eq, ileB_eq, ieqB_eq, u8L_ofBytes, bytesL_ofBytes, bytesOf_ofBytes, ofBytes_plainL, ofBytes_length, AV.intOf, AV.isInt, f7, ii, hl]; done)
              | (simp [nbeq, nble, iltB_eq, ileB_eq, ieqB_eq, u8L_ofBytes, bytesL_ofBytes, bytesOf_ofBytes, ofBytes_plainL, ofBytes_length, AV.intOf, AV.isInt, f7, ii, hl]; omega))
          replace key := key (by
            (try simp only [kept_eq, bytesL_ofBytes, bytesOf_ofBytes, Option.getD_some, hr, f7, ii, k0, hz, zl, zr, z1, a2, a3, gl, gp, bp, AV.intOf])
            first
              | done
              | rfl
              | assumption
              | exact ofBytes_plainL _
              | exact u8L_ofBytes _
              | (simp [nbeq, nble, iltB_eq, ileB_eq, ieqB_eq, u8L_ofBytes, bytesL_ofBytes, bytesOf_ofBytes, ofBytes_plainL, ofBytes_length, AV.intOf, AV.isInt, f7, ii, hl]; done)
              | (simp [nbeq, nble, iltB_eq, ileB_eq, ieqB_eq, u8L_ofBytes, bytesL_ofBytes, bytesOf_ofBytes, ofBytes_plainL, ofBytes_length, AV.intOf, AV.isInt, f7, ii, hl]; omega))
          replace key := key (by
            (try simp only [kept_eq, bytesL_ofBytes, bytesOf_ofBytes, Option.getD_some, hr, f7, ii, k0, hz, zl, zr, z1, a2, a3, gl, gp, bp, AV.intOf])
            first
              | done
              | rfl
              | assumption
              | exact ofBytes_plainL _
              | exact u8L_ofBytes _
              | (simp [nbeq, nble, iltB_eq, ileB_eq, ieqB_eq, u8L_ofBytes, bytesL_ofBytes, bytesOf_ofBytes, ofBytes_plainL, ofBytes_length, AV.intOf, AV.isInt, f7, ii, hl]; done)
              | (simp [nbeq, nble, iltB_eq, ileB_eq, ieqB_eq, u8L_ofBytes, bytesL_ofBytes, bytesOf_ofBytes, ofBytes_plainL, ofBytes_length, AV.intOf, AV.isInt, f7, ii, hl]; omega))
          replace key := key (by
            (try simp only [kept_eq, bytesL_ofBytes, bytesOf_ofBytes, Option.getD_some, hr, f7, ii, k0, hz, zl, zr, z1, a2, a3, gl, gp, bp, AV.intOf])
            first
              | done
              | rfl
              | assumption
              | exact ofBytes_plainL _
              | exact u8L_ofBytes _
              | (simp [nbeq, nble, iltB_eq, ileB_eq, ieqB_eq, u8L_ofBytes, bytesL_ofBytes, bytesOf_ofBytes, ofBytes_plainL, ofBytes_length, AV.intOf, AV.isInt, f7, ii, hl]; done)
              | (simp [nbeq, nble, iltB_eq, ileB_eq, ieqB_eq, u8L_ofBytes, bytesL_ofBytes, bytesOf_ofBytes, ofBytes_plainL, ofBytes_length, AV.intOf, AV.isInt, f7, ii, hl]; omega))
          replace key := key (by
            (try simp only [kept_eq, bytesL_ofBytes, bytesOf_ofBytes, Option.getD_some, hr, f7, ii, k0, hz, zl, zr, z1, a2, a3, gl, gp, bp, AV.intOf])
            first
              | done
              | rfl
              | assumption
              | exact ofBytes_plainL _
              | exact u8L_ofBytes _
              | (simp [nbeq, nble, iltB_eq, ileB_eq, ieqB_eq, u8L_ofBytes, bytesL_ofBytes, bytesOf_ofBytes, ofBytes_plainL, ofBytes_length, AV.intOf, AV.isInt, f7, ii, hl]; done)
              | (simp [nbeq, nble, iltB_eq, ileB_eq, ieqB_eq, u8L_ofBytes, bytesL_ofBytes, bytesOf_ofBytes, ofBytes_plainL, ofBytes_length, AV.intOf, AV.isInt, f7, ii, hl]; omega))
          replace key := key (by
            (try simp only [kept_eq, bytesL_ofBytes, bytesOf_ofBytes, Option.getD_some, hr, f7, ii, k0, hz, zl, zr, z1, a2, a3, gl, gp, bp, AV.intOf])
            first
              | done
              | rfl
              | assumption
              | exact ofBytes_plainL _
              | exact u8L_ofBytes _
              | (simp [nbeq, nble, iltB_eq, ileB_eq, ieqB_eq, u8L_ofBytes, bytesL_ofBytes, bytesOf_ofBytes, ofBytes_plainL, ofBytes_length, AV.intOf, AV.isInt, f7, ii, hl]; done)
              | (simp [nbeq, nble, iltB_eq, ileB_eq, ieqB_eq, u8L_ofBytes, bytesL_ofBytes, bytesOf_ofBytes, ofBytes_plainL, ofBytes_length, AV.intOf, AV.isInt, f7, ii, hl]; omega))
          replace key := key (by
            (try simp only [kept_eq, bytesL_ofBytes, bytesOf_ofBytes, Option.getD_some, hr, f7, ii, k0, hz, zl, zr, z1, a2, a3, gl, gp, bp, AV.intOf])
            first
              | done
              | rfl
              | assumption
              | exact ofBytes_plainL _
              | exact u8L_ofBytes _
              | (simp [nbeq, nble, iltB_eq, ileB_eq, ieqB_eq, u8L_ofBytes, bytesL_ofBytes, bytesOf_ofBytes, ofBytes_plainL, ofBytes_length, AV.intOf, AV.isInt, f7, ii, hl]; done)
              | (simp [nbeq, nble, iltB_eq, ileB_eq, ieqB_eq, u8L_ofBytes, bytesL_ofBytes, bytesOf_ofBytes, ofBytes_plainL, ofBytes_length, AV.intOf, AV.isInt, f7, ii, hl]; omega))
          replace key := key (by
            (try simp only [kept_eq, bytesL_ofBytes, bytesOf_ofBytes, Option.getD_some, hr, f7, ii, k0, hz, zl, zr, z1, a2, a3, gl, gp, bp, AV.intOf])
            first
              | done
              | rfl
              | assumption
              | exact ofBytes_plainL _
              | exact u8L_ofBytes _
              | (simp [nbeq, nble, iltB_eq, ileB_eq, ieqB_eq, u8L_ofBytes, bytesL_ofBytes, bytesOf_ofBytes, ofBytes_plainL, ofBytes_length, AV.intOf, AV.isInt, f7, ii, hl]; done)
              | (simp [nbeq, nble, iltB_eq, ileB_eq, ieqB_eq, u8L_ofBytes, bytesL_ofBytes, bytesOf_ofBytes, ofBytes_plainL, ofBytes_length, AV.intOf, AV.isInt, f7, ii, hl]; omega))
          replace key := key (by
            (try simp only [kept_eq, bytesL_ofBytes, bytesOf_ofBytes, Option.getD_some, hr, f7, ii, k0, hz, zl, zr, z1, a2, a3, gl, gp, bp, AV.intOf])
            first
              | done
              | rfl
              | assumption
              | exact ofBytes_plainL _
              | exact u8L_ofBytes _
              | (simp [nbeq, nble, iltB_eq, ileB_eq, ieqB_eq, u8L_ofBytes, bytesL_ofBytes, bytesOf_ofBytes, ofBytes_plainL, ofBytes_length, AV.intOf, AV.isInt, f7, ii, hl]; done)
              | (simp [nbeq, nble, iltB_eq, ileB_eq, ieqB_eq, u8L_ofBytes, bytesL_ofBytes, bytesOf_ofBytes, ofBytes_plainL, ofBytes_length, AV.intOf, AV.isInt, f7, ii, hl]; omega))
          replace key := key (by
            (try simp only [kept_eq, bytesL_ofBytes, bytesOf_ofBytes, Option.getD_some, hr, f7, ii, k0, hz, zl, zr, z1, a2, a3, gl, gp, bp, AV.intOf])
            first
              | done
              | rfl
              | assumption
              | exact ofBytes_plainL _
              | exact u8L_ofBytes _
              | (simp [nbeq, nble, iltB_eq, ileB_eq, ieqB_eq, u8L_ofBytes, bytesL_ofBytes, bytesOf_ofBytes, ofBytes_plainL, ofBytes_length, AV.intOf, AV.isInt, f7, ii, hl]; done)
              | (simp [nbeq, nble, iltB_eq, ileB_eq, ieqB_eq, u8L_ofBytes, bytesL_ofBytes, bytesOf_ofBytes, ofBytes_plainL, ofBytes_length, AV.intOf, AV.isInt, f7, ii, hl]; omega))
          replace key := key (by
            (try simp only [kept_eq, bytesL_ofBytes, bytesOf_ofBytes, Option.getD_some, hr, f7, ii, k0, hz, zl, zr, z1, a2, a3, gl, gp, bp, AV.intOf])
            first
              | done
              | rfl
              | assumption
              | exact ofBytes_plainL _
              | exact u8L_ofBytes _
              | (simp [nbeq, nble, iltB_eq, ileB_eq, ieqB_eq, u8L_ofBytes, bytesL_ofBytes, bytesOf_ofBytes, ofBytes_plainL, ofBytes_length, AV.intOf, AV.isInt, f7, ii, hl]; done)
              | (simp [nbeq, nble, iltB_eq, ileB_eq, ieqB_eq, u8L_ofBytes, bytesL_ofBytes, bytesOf_ofBytes, ofBytes_plainL, ofBytes_length, AV.intOf, AV.isInt, f7, ii, hl]; omega))
          replace key := key (by
            (try simp only [kept_eq, bytesL_ofBytes, bytesOf_ofBytes, Option.getD_some, hr, f7, ii, k0, hz, zl, zr, z1, a2, a3, gl, gp, bp, AV.intOf])
            first
              | done
              | rfl
              | assumption
              | exact ofBytes_plainL _
              | exact u8L_ofBytes _
              | (simp [nbeq, nble, iltB_eq, ileB_eq, ieqB_eq, u8L_ofBytes, bytesL_ofBytes, bytesOf_ofBytes, ofBytes_plainL, ofBytes_length, AV.intOf, AV.isInt, f7, ii, hl]; done)
              | (simp [nbeq, nble, iltB_eq, ileB_eq, ieqB_eq, u8L_ofBytes, bytesL_ofBytes, bytesOf_ofBytes, ofBytes_plainL, ofBytes_length, AV.intOf, AV.isInt, f7, ii, hl]; omega))
          replace key := key (by
            (try simp only [kept_eq, bytesL_ofBytes, bytesOf_ofBytes, Option.getD_some, hr, f7, ii, k0, hz, zl, zr, z1, a2, a3, gl, gp, bp, AV.intOf])
            first
              | done
              | rfl
              | assumption
              | exact ofBytes_plainL _
              | exact u8L_ofBytes _
              | (simp [nbeq, nble, iltB_eq, ileB_eq, ieqB_eq, u8L_ofBytes, bytesL_ofBytes, bytesOf_ofBytes, ofBytes_plainL, ofBytes_length, AV.intOf, AV.isInt, f7, ii, hl]; done)
              | (simp [nbeq, nble, iltB_eq, ileB_eq, ieqB_eq, u8L_ofBytes, bytesL_ofBytes, bytesOf_ofBytes, ofBytes_plainL, ofBytes_length, AV.intOf, AV.isInt, f7, ii, hl]; omega))
          replace key := key (by
            (try simp only [kept_eq, bytesL_ofBytes, bytesOf_ofBytes, Option.getD_some, hr, f7, ii, k0, hz, zl, zr, z1, a2, a3, gl, gp, bp, AV.intOf])
            first
              | done
              | rfl
              | assumption
              | exact ofBytes_plainL _
              | exact u8L_ofBytes _
              | (simp [nbeq, nble, iltB_eq, ileB_eq, ieqB_eq, u8L_ofBytes, bytesL_ofBytes, bytesOf_ofBytes, ofBytes_plainL, ofBytes_length, AV.intOf, AV.isInt, f7, ii, hl]; done)
              | (simp [nbeq, nble, iltB_eq, ileB_eq, ieqB_eq, u8L_ofBytes, bytesL_ofBytes, bytesOf_ofBytes, ofBytes_plainL, ofBytes_length, AV.intOf, AV.isInt, f7, ii, hl]; omega))
          replace key := key (by
            (try simp only [kept_eq, bytesL_ofBytes, bytesOf_ofBytes, Option.getD_some, hr, f7, ii, k0, hz, zl, zr, z1, a2, a3, gl, gp, bp, AV.intOf])
            first
              | done
              | rfl
              | assumption
              | exact ofBytes_plainL _
              | exact u8L_ofBytes _
              | (simp [nbeq, nble, iltB_eq, ileB_eq, ieqB_eq, u8L_ofBytes, bytesL_ofBytes, bytesOf_ofBytes, ofBytes_plainL, ofBytes_length, AV.intOf, AV.isInt, f7, ii, hl]; done)
              | (simp [nbeq, nble, iltB_eq, ileB_eq, ieqB_eq, u8L_ofBytes, bytesL_ofBytes, bytesOf_ofBytes, ofBytes_plainL, ofBytes_length, AV.intOf, AV.isInt, f7, ii, hl]; omega))
          replace key := key (by
            (try simp only [kept_eq, bytesL_ofBytes, bytesOf_ofBytes, Option.getD_some, hr, f7, ii, k0, hz, zl, zr, z1, a2, a3, gl, gp, bp, AV.intOf])
            first
              | done
              | rfl
              | assumption
              | exact ofBytes_plainL _
              | exact u8L_ofBytes _
              | (simp [nbeq, nble, iltB_eq, ileB_eq, ieqB_eq, u8L_ofBytes, bytesL_ofBytes, bytesOf_ofBytes, ofBytes_plainL, ofBytes_length, AV.intOf, AV.isInt, f7, ii, hl]; done)
              | (simp [nbeq, nble, iltB_eq, ileB_eq, ieqB_eq, u8L_ofBytes, bytesL_ofBytes, bytesOf_ofBytes, ofBytes_plainL, ofBytes_length, AV.intOf, AV.isInt, f7, ii, hl]; omega))
          replace key := key (by
            (try simp only [kept_eq, bytesL_ofBytes, bytesOf_ofBytes, Option.getD_some, hr, f7, ii, k0, hz, zl, zr, z1, a2, a3, gl, gp, bp, AV.intOf])
            first
              | done
              | rfl
              | assumption
              | exact ofBytes_plainL _
              | exact u8L_ofBytes _
              | (simp [nbeq, nble, iltB_eq, ileB_eq, ieqB_eq, u8L_ofBytes, bytesL_ofBytes, bytesOf_ofBytes, ofBytes_plainL, ofBytes_length, AV.intOf, AV.isInt, f7, ii, hl]; done)
              | (simp [nbeq, nble, iltB_eq, ileB_eq, ieqB_eq, u8L_ofBytes, bytesL_ofBytes, bytesOf_ofBytes, ofBytes_plainL, ofBytes_length, AV.intOf, AV.isInt, f7, ii, hl]; omega))
          replace key := key (by
            (try simp only [kept_eq, bytesL_ofBytes, bytesOf_ofBytes, Option.getD_some, hr, f7, ii, k0, hz, zl, zr, z1, a2, a3, gl, gp, bp, AV.intOf])
            first
              | done
              | rfl
              | assumption
              | exact ofBytes_plainL _
              | exact u8L_ofBytes _
              | (simp [nbeq, nble, iltB_eq, ileB_eq, ieqB_eq, u8L_ofBytes, bytesL_ofBytes, bytesOf_ofBytes, ofBytes_plainL, ofBytes_length, AV.intOf, AV.isInt, f7, ii, hl]; done)
              | (simp [nbeq, nble, iltB_eq, ileB_eq, ieqB_eq, u8L_ofBytes, bytesL_ofBytes, bytesOf_ofBytes, ofBytes_plainL, ofBytes_length, AV.intOf, AV.isInt, f7, ii, hl]; omega))
          replace key := key (by
            (try simp only [kept_eq, bytesL_ofBytes, bytesOf_ofBytes, Option.getD_some, hr, f7, ii, k0, hz, zl, zr, z1, a2, a3, gl, gp, bp, AV.intOf])
            first
              | done
              | rfl
              | assumption
              | exact ofBytes_plainL _
              | exact u8L_ofBytes _
              | (simp [nbeq, nble, iltB_eq, ileB_eq, ieqB_eq, u8L_ofBytes, bytesL_ofBytes, bytesOf_ofBytes, ofBytes_plainL, ofBytes_length, AV.intOf, AV.isInt, f7, ii, hl]; done)
              | (simp [nbeq, nble, iltB_eq, ileB_eq, ieqB_eq, u8L_ofBytes, bytesL_ofBytes, bytesOf_ofBytes, ofBytes_plainL, ofBytes_length, AV.intOf, AV.isInt, f7, ii, hl]; omega))
          replace key := key (by
            (try simp only [kept_eq, bytesL_ofBytes, bytesOf_ofBytes, Option.getD_some, hr, f7, ii, k0, hz, zl, zr, z1, a2, a3, gl, gp, bp, AV.intOf])
            first
              | done
              | rfl
              | assumption
              | exact ofBytes_plainL _
              | exact u8L_ofBytes _
              | (simp [nbeq, nble, iltB_eq, ileB_eq, ieqB_eq, u8L_ofBytes, bytesL_ofBytes, bytesOf_ofBytes, ofBytes_plainL, ofBytes_length, AV.intOf, AV.isInt, f7, ii, hl]; done)
              | (simp [nbeq, nble, iltB_eq, ileB_eq, ieqB_eq, u8L_ofBytes, bytesL_ofBytes, bytesOf_ofBytes, ofBytes_plainL, ofBytes_length, AV.intOf, AV.isInt, f7, ii, hl]; omega))
          replace key := key (by
            (try simp only [kept_eq, bytesL_ofBytes, bytesOf_ofBytes, Option.getD_some, hr, f7, ii, k0, hz, zl, zr, z1, a2, a3, gl, gp, bp, AV.intOf])
            first
              | done
              | rfl
              | assumption
              | exact ofBytes_plainL _
              | exact u8L_ofBytes _
              | (simp [nbeq, nble, iltB_eq, ileB_eq, ieqB_eq, u8L_ofBytes, bytesL_ofBytes, bytesOf_ofBytes, ofBytes_plainL, ofBytes_length, AV.intOf, AV.isInt, f7, ii, hl]; done)
              | (simp [nbeq, nble, iltB_eq, ileB_eq, ieqB_eq, u8L_ofBytes, bytesL_ofBytes, bytesOf_ofBytes, ofBytes_plainL, ofBytes_length, AV.intOf, AV.isInt, f7, ii, hl]; omega))
          replace key := key (by
            (try simp only [kept_eq, bytesL_ofBytes, bytesOf_ofBytes, Option.getD_some, hr, f7, ii, k0, hz, zl, zr, z1, a2, a3, gl, gp, bp, AV.intOf])
            first
              | done
              | rfl
              | assumption
              | exact ofBytes_plainL _
              | exact u8L_ofBytes _
              | (simp [nbeq, nble, iltB_eq, ileB_eq, ieqB_eq, u8L_ofBytes, bytesL_ofBytes, bytesOf_ofBytes, ofBytes_plainL, ofBytes_length, AV.intOf, AV.isInt, f7, ii, hl]; done)
              | (simp [nbeq, nble, iltB_eq, ileB_eq, ieqB_eq, u8L_ofBytes, bytesL_ofBytes, bytesOf_ofBytes, ofBytes_plainL, ofBytes_length, AV.intOf, AV.isInt, f7, ii, hl]; omega))
          obtain ⟨h', h, _⟩ := key
          refine ⟨h', h.trans ?_⟩
          (try simp only [kept_eq, bytesL_ofBytes, bytesOf_ofBytes, Option.getD_some, hr, f7, ii, k0, hz, zl, zr, z1, a2, a3, gl, gp, bp, AV.intOf])
          first
            | done
            | rfl
            | (simp [f7, ii, hl]; done)
        | false =>
          have z1 := (bytesEq_nil hl).2
          have key := sc_n_n3 s c g a b.length (ofBytes b)
          replace key := key (by
            (try simp only [kept_eq, bytesL_ofBytes, bytesOf_ofBytes, Option.getD_some, hr, f7, ii, k0, hz, zl, zr, z1, a2, a3, gl, gp, bp, AV.intOf])
            first
              | done
              | rfl
              | assumption
              | exact ofBytes_plainL _
              | exact u8L_ofBytes _
              | (simp [nbeq, nble, iltB_eq, ileB_eq, ieqB_eq, u8L_ofBytes, bytesL_ofBytes, bytesOf_ofBytes, ofBytes_plainL, ofBytes_length, AV.intOf, AV.isInt, f7, ii, hl]; done)
              | (simp [nbeq, nble, iltB_eq, ileB_eq, ieqB_eq, u8L_ofBytes, bytesL_ofBytes, bytesOf_ofBytes, ofBytes_plainL, ofBytes_length, AV.intOf, AV.isInt, f7, ii, hl]; omega))
          replace key := key (by
            (try simp only [kept_eq, bytesL_ofBytes, bytesOf_ofBytes, Option.getD_some, hr, f7, ii, k0, hz, zl, zr, z1, a2, a3, gl, gp, bp, AV.intOf])
            first
              | done
              | rfl
              | assumption
              | exact ofBytes_plainL _
              | exact u8L_ofBytes _
              | (simp [nbeq, nble, iltB_eq, ileB_eq, ieqB_eq, u8L_ofBytes, bytesL_ofBytes, bytesOf_ofBytes, ofBytes_plainL, ofBytes_length, AV.intOf, AV.isInt, f7, ii, hl]; done)
              | (simp [nbeq, nble, iltB_eq, ileB_eq, ieqB_eq, u8L_ofBytes, bytesL_ofBytes, bytesOf_ofBytes, ofBytes_plainL, ofBytes_length, AV.intOf, AV.isInt, f7, ii, hl]; omega))
          replace key := key (by
            (try simp only [kept_eq, bytesL_ofBytes, bytesOf_ofBytes, Option.getD_some, hr, f7, ii, k0, hz, zl, zr, z1, a2, a3, gl, gp, bp, AV.intOf])
            first
              | done
              | rfl
              | assumption
              | exact ofBytes_plainL _
              | exact u8L_ofBytes _
              | (simp [nbeq, nble, iltB_eq, ileB_eq, ieqB_eq, u8L_ofBytes, bytesL_ofBytes, bytesOf_ofBytes, ofBytes_plainL, ofBytes_length, AV.intOf, AV.isInt, f7, ii, hl]; done)
              | (simp [nbeq, nble, iltB_eq, ileB_eq, ieqB_eq, u8L_ofBytes, bytesL_ofBytes, bytesOf_ofBytes, ofBytes_plainL, ofBytes_length, AV.intOf, AV.isInt, f7, ii, hl]; omega))
          replace key := key (by
            (try simp only [kept_eq, bytesL_ofBytes, bytesOf_ofBytes, Option.getD_some, hr, f7, ii, k0, hz, zl, zr, z1, a2, a3, gl, gp, bp, AV.intOf])
            first
              | done
              | rfl
              | assumption
              | exact ofBytes_plainL _
              | exact u8L_ofBytes _
              | (simp [nbeq, nble, iltB_eq, ileB_eq, ieqB_eq, u8L_ofBytes, bytesL_ofBytes, bytesOf_ofBytes, ofBytes_plainL, ofBytes_length, AV.intOf, AV.isInt, f7, ii, hl]; done)
              | (simp [nbeq, nble, iltB_eq, ileB_eq, ieqB_eq, u8L_ofBytes, bytesL_ofBytes, bytesOf_ofBytes, ofBytes_plainL, ofBytes_length, AV.intOf, AV.isInt, f7, ii, hl]; omega))
          replace key := key (by
            (try simp only [kept_eq, bytesL_ofBytes, bytesOf_ofBytes, Option.getD_some, hr, f7, ii, k0, hz, zl, zr, z1, a2, a3, gl, gp, bp, AV.intOf])
            first
              | done
              | rfl
              | assumption
              | exact ofBytes_plainL _
              | exact u8L_ofBytes _
              | (simp [nbeq, nble, iltB_eq, ileB_eq, ieqB_eq, u8L_ofBytes, bytesL_ofBytes, bytesOf_ofBytes, ofBytes_plainL, ofBytes_length, AV.intOf, AV.isInt, f7, ii, hl]; done)
              | (simp [nbeq, nble, iltB_eq, ileB_eq, ieqB_eq, u8L_ofBytes, bytesL_ofBytes, bytesOf_ofBytes, ofBytes_plainL, ofBytes_length, AV.intOf, AV.isInt, f7, ii, hl]; omega))
          replace key := key (by
            (try simp only [kept_eq, bytesL_ofBytes, bytesOf_ofBytes, Option.getD_some, hr, f7, ii, k0, hz, zl, zr, z1, a2, a3, gl, gp, bp, AV.intOf])
            first
              | done
              | rfl
              | assumption
              | exact ofBytes_plainL _
              | exact u8L_ofBytes _
              | (simp [nbeq, nble, iltB_eq, ileB_eq, ieqB_eq, u8L_ofBytes, bytesL_ofBytes, bytesOf_ofBytes, ofBytes_plainL, ofBytes_length, AV.intOf, AV.isInt, f7, ii, hl]; done)
              | (simp [nbeq, nble, iltB_eq, ileB_eq, ieqB_eq, u8L_ofBytes, bytesL_ofBytes, bytesOf_ofBytes, ofBytes_plainL, ofBytes_length, AV.intOf, AV.isInt, f7, ii, hl]; omega))
          replace key := key (by
            (try simp only [kept_eq, bytesL_ofBytes, bytesOf_ofBytes, Option.getD_some, hr, f7, ii, k0, hz, zl, zr, z1, a2, a3, gl, gp, bp, AV.intOf])
            first
              | done
              | rfl
              | assumption
              | exact ofBytes_plainL _
              | exact u8L_ofBytes _
              | (simp [nbeq, nble, iltB_eq, ileB_eq, ieqB_eq, u8L_ofBytes, bytesL_ofBytes, bytesOf_ofBytes, ofBytes_plainL, ofBytes_length, AV.intOf, AV.isInt, f7, ii, hl]; done)
              | (simp [nbeq, nble, iltB_eq, ileB_eq, ieqB_eq, u8L_ofBytes, bytesL_ofBytes, bytesOf_ofBytes, ofBytes_plainL, ofBytes_length, AV.intOf, AV.isInt, f7, ii, hl]; omega))
          replace key := key (by
            (try simp only [kept_eq, bytesL_ofBytes, bytesOf_ofBytes, Option.getD_some, hr, f7, ii, k0, hz, zl, zr, z1, a2, a3, gl, gp, bp, AV.intOf])
            first
              | done
              | rfl
              | assumption
              | exact ofBytes_plainL _
              | exact u8L_ofBytes _
              | (simp [nbeq, nble, iltB_eq, ileB_eq, ieqB_eq, u8L_ofBytes, bytesL_ofBytes, bytesOf_ofBytes, ofBytes_plainL, ofBytes_length, AV.intOf, AV.isInt, f7, ii, hl]; done)
              | (simp [nbeq, nble, iltB_eq, ileB_eq, ieqB_eq, u8L_ofBytes, bytesL_ofBytes, bytesOf_ofBytes, ofBytes_plainL, ofBytes_length, AV.intOf, AV.isInt, f7, ii, hl]; omega))
          replace key := key (by
            (try simp only [kept_eq, bytesL_ofBytes, bytesOf_ofBytes, Option.getD_some, hr, f7, ii, k0, hz, zl, zr, z1, a2, a3, gl, gp, bp, AV.intOf])
            first
              | done
              | rfl
              | assumption
              | exact ofBytes_plainL _
              | exact u8L_ofBytes _
              | (simp [nbeq, nble, iltB_eq, ileB_eq, ieqB_eq, u8L_ofBytes, bytesL_ofBytes, bytesOf_ofBytes, ofBytes_plainL, ofBytes_length, AV.intOf, AV.isInt, f7, ii, hl]; done)
              | (simp [nbeq, nble, iltB_eq, ileB_eq, ieqB_eq, u8L_ofBytes, bytesL_ofBytes, bytesOf_ofBytes, ofBytes_plainL, ofBytes_length, AV.intOf, AV.isInt, f7, ii, hl]; omega))
          replace key := key (by
            (try simp only [kept_eq, bytesL_ofBytes, bytesOf_ofBytes, Option.getD_some, hr, f7, ii, k0, hz, zl, zr, z1, a2, a3, gl, gp, bp, AV.intOf])
            first
              | done
              | rfl
              | assumption
              | exact ofBytes_plainL _
              | exact u8L_ofBytes _
              | (simp [nbeq, nble, iltB_eq, ileB_eq, ieqB_eq, u8L_ofBytes, bytesL_ofBytes, bytesOf_ofBytes, ofBytes_plainL, ofBytes_length, AV.intOf, AV.isInt, f7, ii, hl]; done)
              | (simp [nbeq, nble, iltB_eq, ileB_eq, ieqB_eq, u8L_ofBytes, bytesL_ofBytes, bytesOf_ofBytes, ofBytes_plainL, ofBytes_length, AV.intOf, AV.isInt, f7, ii, hl]; omega))
          replace key := key (by
            (try simp only [kept_eq, bytesL_ofBytes, bytesOf_ofBytes, Option.getD_some, hr, f7, ii, k0, hz, zl, zr, z1, a2, a3, gl, gp, bp, AV.intOf])
            first
              | done
              | rfl
              | assumption
              | exact ofBytes_plainL _
              | exact u8L_ofBytes _
              | (simp [nbeq, nble, iltB_eq, ileB_eq, ieqB_eq, u8L_ofBytes, bytesL_ofBytes, bytesOf_ofBytes, ofBytes_plainL, ofBytes_length, AV.intOf, AV.isInt, f7, ii, hl]; done)
              | (simp [nbeq, nble, iltB_eq, ileB_eq, ieqB_eq, u8L_ofBytes, bytesL_ofBytes, bytesOf_ofBytes, ofBytes_plainL, ofBytes_length, AV.intOf, AV.isInt, f7, ii, hl]; omega))
          replace key := key (by
            (try simp only [kept_eq, bytesL_ofBytes, bytesOf_ofBytes, Option.getD_some, hr, f7, ii, k0, hz, zl, zr, z1, a2, a3, gl, gp, bp, AV.intOf])
            first
              | done
              | rfl
              | assumption
              | exact ofBytes_plainL _
              | exact u8L_ofBytes _
              | (simp [nbeq, nble, iltB_eq, ileB_eq, ieqB_eq, u8L_ofBytes, bytesL_ofBytes, bytesOf_ofBytes, ofBytes_plainL, ofBytes_length, AV.intOf, AV.isInt, f7, ii, hl]; done)
              | (simp [nbeq, nble, iltB_eq, ileB_eq, ieqB_eq, u8L_ofBytes, bytesL_ofBytes, bytesOf_ofBytes, ofBytes_plainL, ofBytes_length, AV.intOf, AV.isInt, f7, ii, hl]; omega))
          replace key := key (by
            (try simp only [kept_eq, bytesL_ofBytes, bytesOf_ofBytes, Option.getD_some, hr, f7, ii, k0, hz, zl, zr, z1, a2, a3, gl, gp, bp, AV.intOf])
            first
              | done
              | rfl
              | assumption
              | exact ofBytes_plainL _
              | exact u8L_ofBytes _
              | (simp [nbeq, nble, iltB_eq, ileB_eq, ieqB_eq, u8L_ofBytes, bytesL_ofBytes, bytesOf_ofBytes, ofBytes_plainL, ofBytes_length, AV.intOf, AV.isInt, f7, ii, hl]; done)
              | (simp [nbeq, nble, iltB_eq, ileB_eq, ieqB_eq, u8L_ofBytes, bytesL_ofBytes, bytesOf_ofBytes, ofBytes_plainL, ofBytes_length, AV.intOf, AV.isInt, f7, ii, hl]; omega))
          replace key := key (by
            (try simp only [kept_eq, bytesL_ofBytes, bytesOf_ofBytes, Option.getD_some, hr, f7, ii, k0, hz, zl, zr, z1, a2, a3, gl, gp, bp, AV.intOf])
            first
              | done
              | rfl
              | assumption
              | exact ofBytes_plainL _
              | exact u8L_ofBytes _
              | (simp [nbeq, nble, iltB_eq, ileB_eq, ieqB_eq, u8L_ofBytes, bytesL_ofBytes, bytesOf_ofBytes, ofBytes_plainL, ofBytes_length, AV.intOf, AV.isInt, f7, ii, hl]; done)
              | (simp [nbeq, nble, iltB_eq, ileB_eq, ieqB_eq, u8L_ofBytes, bytesL_ofBytes, bytesOf_ofBytes, ofBytes_plainL, ofBytes_length, AV.intOf, AV.isInt, f7, ii, hl]; omega))
          replace key := key (by
            (try simp only [kept_eq, bytesL_ofBytes, bytesOf_ofBytes, Option.getD_some, hr, f7, ii, k0, hz, zl, zr, z1, a2, a3, gl, gp, bp, AV.intOf])
            first
              | done
              | rfl
              | assumption
              | exact ofBytes_plainL _
              | exact u8L_ofBytes _
              | (simp [nbeq, nble, iltB_eq, ileB_eq, ieqB_eq, u8L_ofBytes, bytesL_ofBytes, bytesOf_ofBytes, ofBytes_plainL, ofBytes_length, AV.intOf, AV.isInt, f7, ii, hl]; done)
              | (simp [nbeq, nble, iltB_eq, ileB_eq, ieqB_eq, u8L_ofBytes, bytesL_ofBytes, bytesOf_ofBytes, ofBytes_plainL, ofBytes_length, AV.intOf, AV.isInt, f7, ii, hl]; omega))
          replace key := key (by
            (try simp only [kept_eq, bytesL_ofBytes, bytesOf_ofBytes, Option.getD_some, hr, f7, ii, k0, hz, zl, zr, z1, a2, a3, gl, gp, bp, AV.intOf])
            first
              | done
              | rfl
              | assumption
              | exact ofBytes_plainL _
              | exact u8L_ofBytes _
              | (simp [nbeq, nble, iltB_eq, ileB_eq, ieqB_eq, u8L_ofBytes, bytesL_ofBytes, bytesOf_ofBytes, ofBytes_plainL, ofBytes_length, AV.intOf, AV.isInt, f7, ii, hl]; done)
              | (simp [nbeq, nble, iltB_eq, ileB_eq, ieqB_eq, u8L_ofBytes, bytesL_ofBytes, bytesOf_ofBytes, ofBytes_plainL, ofBytes_length, AV.intOf, AV.isInt, f7, ii, hl]; omega))
          replace key := key (by
            (try simp only [kept_eq, bytesL_ofBytes, bytesOf_ofBytes, Option.getD_some, hr, f7, ii, k0, hz, zl, zr, z1, a2, a3, gl, gp, bp, AV.intOf])
            first
              | done
              | rfl
              | assumption
              | exact ofBytes_plainL _
              | exact u8L_ofBytes _
              | (simp [nbeq, nble, iltB_eq, ileB_eq, ieqB_eq, u8L_ofBytes, bytesL_ofBytes, bytesOf_ofBytes, ofBytes_plainL, ofBytes_length, AV.intOf, AV.isInt, f7, ii, hl]; done)
              | (simp [nbeq, nble, iltB_eq, ileB_eq, ieqB_eq, u8L_ofBytes, bytesL_ofBytes, bytesOf_ofBytes, ofBytes_plainL, ofBytes_length, AV.intOf, AV.isInt, f7, ii, hl]; omega))
          replace key := key (by
            (try simp only [kept_eq, bytesL_ofBytes, bytesOf_ofBytes, Option.getD_some, hr, f7, ii, k0, hz, zl, zr, z1, a2, a3, gl, gp, bp, AV.intOf])
            first
              | done
              | rfl
              | assumption
              | exact ofBytes_plainL _
              | exact u8L_ofBytes _
              | (simp [nbeq, nble, iltB_eq, ileB_eq, ieqB_eq, u8L_ofBytes, bytesL_ofBytes, bytesOf_ofBytes, ofBytes_plainL, ofBytes_length, AV.intOf, AV.isInt, f7, ii, hl]; done)
              | (simp [nbeq, nble, iltB_eq, ileB_eq, ieqB_eq, u8L_ofBytes, bytesL_ofBytes, bytesOf_ofBytes, ofBytes_plainL, ofBytes_length, AV.intOf, AV.isInt, f7, ii, hl]; omega))
          replace key := key (by
            (try simp only [kept_eq, bytesL_ofBytes, bytesOf_ofBytes, Option.getD_some, hr, f7, ii, k0, hz, zl, zr, z1, a2, a3, gl, gp, bp, AV.intOf])
            first
              | done
              | rfl
              | assumption
              | exact ofBytes_plainL _
              | exact u8L_ofBytes _
              | (simp [nbeq, nble, iltB_eq, ileB_eq, ieqB_eq, u8L_ofBytes, bytesL_ofBytes, bytesOf_ofBytes, ofBytes_plainL, ofBytes_length, AV.intOf, AV.isInt, f7, ii, hl]; done)
              | (simp [nbeq, nble, iltB_eq, ileB_eq, ieqB_eq, u8L_ofBytes, bytesL_ofBytes, bytesOf_ofBytes, ofBytes_plainL, ofBytes_length, AV.intOf, AV.isInt, f7, ii, hl]; omega))
          replace key := key (by
            (try simp only [kept_eq, bytesL_ofBytes, bytesOf_ofBytes, Option.getD_some, hr, f7, ii, k0, hz, zl, zr, z1, a2, a3, gl, gp, bp, AV.intOf])
            first
              | done
              | rfl
              | assumption
              | exact ofBytes_plainL _
              | exact u8L_ofBytes _
              | (simp [nbeq, nble, iltB_eq, ileB_eq, ieqB_eq, u8L_ofBytes, bytesL_ofBytes, bytesOf_ofBytes, ofBytes_plainL, ofBytes_length, AV.intOf, AV.isInt, f7, ii, hl]; done)
              | (simp [nbeq, nble, iltB_eq, ileB_eq, ieqB_eq, u8L_ofBytes, bytesL_ofBytes, bytesOf_ofBytes, ofBytes_plainL, ofBytes_length, AV.intOf, AV.isInt, f7, ii, hl]; omega))
          obtain ⟨h', h, _⟩ := key
          refine ⟨h', h.trans ?_⟩
          (try simp only [kept_eq, bytesL_ofBytes, bytesOf_ofBytes, Option.getD_some, hr, f7, ii, k0, hz, zl, zr, z1, a2, a3, gl, gp, bp, AV.intOf])
          first
            | done
            | rfl
            | (simp [f7, ii, hl]; done)
    | true =>
      cases hz : isCB (padB 512 (b.take 512)) with
      | true =>
        have z1 := commitB_of hz
        have zr : rightC (byteI (padB 512 (b.take 512)) 2) (byteI (padB 512 (b.take 512)) 3) = true := by
          have hz2 := hz
          unfold isCB at hz2
          simp only [Bool.and_eq_true] at hz2
          exact hz2.1.2
        have key := sc_n_wy s c g a b.length (ofBytes b)
        replace key := key (by
          (try simp only [kept_eq, bytesL_ofBytes, bytesOf_ofBytes, Option.getD_some, hr, f7, ii, k0, hz, zr, z1, m1, gl, gp, bp, AV.intOf])
          first
            | done
            | rfl
            | assumption
            | exact ofBytes_plainL _
            | exact u8L_ofBytes _
            | (simp [nbeq, nble, iltB_eq, ileB_eq, ieqB_eq, u8L_ofBytes, bytesL_ofBytes, bytesOf_ofBytes, ofBytes_plainL, ofBytes_length, AV.intOf, AV.isInt, f7, ii, hM]; done)
            | (simp [nbeq, nble, iltB_eq, ileB_eq, ieqB_eq, u8L_ofBytes, bytesL_ofBytes, bytesOf_ofBytes, ofBytes_plainL, ofBytes_length, AV.intOf, AV.isInt, f7, ii, hM]; omega))
        replace key := key (by
          (try simp only [kept_eq, bytesL_ofBytes, bytesOf_ofBytes, Option.getD_some, hr, f7, ii, k0, hz, zr, z1, m1, gl, gp, bp, AV.intOf])
          first
            | done
            | rfl
            | assumption
            | exact ofBytes_plainL _
            | exact u8L_ofBytes _
            | (simp [nbeq, nble, iltB_eq, ileB_eq, ieqB_eq, u8L_ofBytes, bytesL_ofBytes, bytesOf_ofBytes, ofBytes_plainL, ofBytes_length, AV.intOf, AV.isInt, f7, ii, hM]; done)
            | (simp [nbeq, nble, iltB_eq, ileB_eq, ieqB_eq, u8L_ofBytes, bytesL_ofBytes, bytesOf_ofBytes, ofBytes_plainL, ofBytes_length, AV.intOf, AV.isInt, f7, ii, hM]; omega))
        replace key := key (by
          (try simp only [kept_eq, bytesL_ofBytes, bytesOf_ofBytes, Option.getD_some, hr, f7, ii, k0, hz, zr, z1, m1, gl, gp, bp, AV.intOf])
          first
            | done
            | rfl
            | assumption
            | exact ofBytes_plainL _
            | exact u8L_ofBytes _
            | (simp [nbeq, nble, iltB_eq, ileB_eq, ieqB_eq, u8L_ofBytes, bytesL_ofBytes, bytesOf_ofBytes, ofBytes_plainL, ofBytes_length, AV.intOf, AV.isInt, f7, ii, hM]; done)
            | (simp [nbeq, nble, iltB_eq, ileB_eq, ieqB_eq, u8L_ofBytes, bytesL_ofBytes, bytesOf_ofBytes, ofBytes_plainL, ofBytes_length, AV.intOf, AV.isInt, f7, ii, hM]; omega))
        replace key := key (by
          (try simp only [kept_eq, bytesL_ofBytes, bytesOf_ofBytes, Option.getD_some, hr, f7, ii, k0, hz, zr, z1, m1, gl, gp, bp, AV.intOf])
          first
            | done
            | rfl
            | assumption
            | exact ofBytes_plainL _
            | exact u8L_ofBytes _
            | (simp [nbeq, nble, iltB_eq, ileB_eq, ieqB_eq, u8L_ofBytes, bytesL_ofBytes, bytesOf_ofBytes, ofBytes_plainL, ofBytes_length, AV.intOf, AV.isInt, f7, ii, hM]; done)
            | (simp [nbeq, nble, iltB_eq, ileB_eq, ieqB_eq, u8L_ofBytes, bytesL_ofBytes, bytesOf_ofBytes, ofBytes_plainL, ofBytes_length, AV.intOf, AV.isInt, f7, ii, hM]; omega))
        replace key := key (by
          (try simp only [kept_eq, bytesL_ofBytes, bytesOf_ofBytes, Option.getD_some, hr, f7, ii, k0, hz, zr, z1, m1, gl, gp, bp, AV.intOf])
          first
            | done
            | rfl
            | assumption
            | exact ofBytes_plainL _
            | exact u8L_ofBytes _
            | (simp [nbeq, nble, iltB_eq, ileB_eq, ieqB_eq, u8L_ofBytes, bytesL_ofBytes, bytesOf_ofBytes, ofBytes_plainL, ofBytes_length, AV.intOf, AV.isInt, f7, ii, hM]; done)
            | (simp [nbeq, nble, iltB_eq, ileB_eq, ieqB_eq, u8L_ofBytes, bytesL_ofBytes, bytesOf_ofBytes, ofBytes_plainL, ofBytes_length, AV.intOf, AV.isInt, f7, ii, hM]; omega))
        replace key := key (by
          (try simp only [kept_eq, bytesL_ofBytes, bytesOf_ofBytes, Option.getD_some, hr, f7, ii, k0, hz, zr, z1, m1, gl, gp, bp, AV.intOf])
          first
            | done
            | rfl
            | assumption
            | exact ofBytes_plainL _
            | exact u8L_ofBytes _
            | (simp [nbeq, nble, iltB_eq, ileB_eq, ieqB_eq, u8L_ofBytes, bytesL_ofBytes, bytesOf_ofBytes, ofBytes_plainL, ofBytes_length, AV.intOf, AV.isInt, f7, ii, hM]; done)
            | (simp [nbeq, nble, iltB_eq, ileB_eq, ieqB_eq, u8L_ofBytes, bytesL_ofBytes, bytesOf_ofBytes, ofBytes_plainL, ofBytes_length, AV.intOf, AV.isInt, f7, ii, hM]; omega))
        replace key := key (by
          (try simp only [kept_eq, bytesL_ofBytes, bytesOf_ofBytes, Option.getD_some, hr, f7, ii, k0, hz, zr, z1, m1, gl, gp, bp, AV.intOf])
          first
            | done
            | rfl
            | assumption
            | exact ofBytes_plainL _
            | exact u8L_ofBytes _
            | (simp [nbeq, nble, iltB_eq, ileB_eq, ieqB_eq, u8L_ofBytes, bytesL_ofBytes, bytesOf_ofBytes, ofBytes_plainL, ofBytes_length, AV.intOf, AV.isInt, f7, ii, hM]; done)
            | (simp [nbeq, nble, iltB_eq, ileB_eq, ieqB_eq, u8L_ofBytes, bytesL_ofBytes, bytesOf_ofBytes, ofBytes_plainL, ofBytes_length, AV.intOf, AV.isInt, f7, ii, hM]; omega))
        replace key := key (by
          (try simp only [kept_eq, bytesL_ofBytes, bytesOf_ofBytes, Option.getD_some, hr, f7, ii, k0, hz, zr, z1, m1, gl, gp, bp, AV.intOf])
          first
            | done
            | rfl
            | assumption
            | exact ofBytes_plainL _
            | exact u8L_ofBytes _
            | (simp [nbeq, nble, iltB_eq, ileB_eq, ieqB_eq, u8L_ofBytes, bytesL_ofBytes, bytesOf_ofBytes, ofBytes_plainL, ofBytes_length, AV.intOf, AV.isInt, f7, ii, hM]; done)
            | (simp [nbeq, nble, iltB_eq, ileB_eq, ieqB_eq, u8L_ofBytes, bytesL_ofBytes, bytesOf_ofBytes, ofBytes_plainL, ofBytes_length, AV.intOf, AV.isInt, f7, ii, hM]; omega))
        replace key := key (by
          (try simp only [kept_eq, bytesL_ofBytes, bytesOf_ofBytes, Option.getD_some, hr, f7, ii, k0, hz, zr, z1, m1, gl, gp, bp, AV.intOf])
          first
            | done
            | rfl
            | assumption
            | exact ofBytes_plainL _
            | exact u8L_ofBytes _
            | (simp [nbeq, nble, iltB_eq, ileB_eq, ieqB_eq, u8L_ofBytes, bytesL_ofBytes, bytesOf_ofBytes, ofBytes_plainL, ofBytes_length, AV.intOf, AV.isInt, f7, ii, hM]; done)
            | (simp [nbeq, nble, iltB_eq, ileB_eq, ieqB_eq, u8L_ofBytes, bytesL_ofBytes, bytesOf_ofBytes, ofBytes_plainL, ofBytes_length, AV.intOf, AV.isInt, f7, ii, hM]; omega))
        replace key := key (by
          (try simp only [kept_eq, bytesL_ofBytes, bytesOf_ofBytes, Option.getD_some, hr, f7, ii, k0, hz, zr, z1, m1, gl, gp, bp, AV.intOf])
          first
            | done
            | rfl
            | assumption
            | exact ofBytes_plainL _
            | exact u8L_ofBytes _
            | (simp [nbeq, nble, iltB_eq, ileB_eq, ieqB_eq, u8L_ofBytes, bytesL_ofBytes, bytesOf_ofBytes, ofBytes_plainL, ofBytes_length, AV.intOf, AV.isInt, f7, ii, hM]; done)
            | (simp [nbeq, nble, iltB_eq, ileB_eq, ieqB_eq, u8L_ofBytes, bytesL_ofBytes, bytesOf_ofBytes, ofBytes_plainL, ofBytes_length, AV.intOf, AV.isInt, f7, ii, hM]; omega))
        replace key := key (by
          (try simp only [kept_eq, bytesL_ofBytes, bytesOf_ofBytes, Option.getD_some, hr, f7, ii, k0, hz, zr, z1, m1, gl, gp, bp, AV.intOf])
          first
            | done
            | rfl
            | assumption
            | exact ofBytes_plainL _
            | exact u8L_ofBytes _
            | (simp [nbeq, nble, iltB_eq, ileB_eq, ieqB_eq, u8L_ofBytes, bytesL_ofBytes, bytesOf_ofBytes, ofBytes_plainL, ofBytes_length, AV.intOf, AV.isInt, f7, ii, hM]; done)
            | (simp [nbeq, nble, iltB_eq, ileB_eq, ieqB_eq, u8L_ofBytes, bytesL_ofBytes, bytesOf_ofBytes, ofBytes_plainL, ofBytes_length, AV.intOf, AV.isInt, f7, ii, hM]; omega))
        replace key := key (by
          (try simp only [kept_eq, bytesL_ofBytes, bytesOf_ofBytes, Option.getD_some, hr, f7, ii, k0, hz, zr, z1, m1, gl, gp, bp, AV.intOf])
          first
            | done
            | rfl
            | assumption
            | exact ofBytes_plainL _
            | exact u8L_ofBytes _
            | (simp [nbeq, nble, iltB_eq, ileB_eq, ieqB_eq, u8L_ofBytes, bytesL_ofBytes, bytesOf_ofBytes, ofBytes_plainL, ofBytes_length, AV.intOf, AV.isInt, f7, ii, hM]; done)
            | (simp [nbeq, nble, iltB_eq, ileB_eq, ieqB_eq, u8L_ofBytes, bytesL_ofBytes, bytesOf_ofBytes, ofBytes_plainL, ofBytes_length, AV.intOf, AV.isInt, f7, ii, hM]; omega))
        replace key := key (by
          (try simp only [kept_eq, bytesL_ofBytes, bytesOf_ofBytes, Option.getD_some, hr, f7, ii, k0, hz, zr, z1, m1, gl, gp, bp, AV.intOf])
          first
            | done
            | rfl
            | assumption
            | exact ofBytes_plainL _
            | exact u8L_ofBytes _
            | (simp [nbeq, nble, iltB_eq, ileB_eq, ieqB_eq, u8L_ofBytes, bytesL_ofBytes, bytesOf_ofBytes, ofBytes_plainL, ofBytes_length, AV.intOf, AV.isInt, f7, ii, hM]; done)
            | (simp [nbeq, nble, iltB_eq, ileB_eq, ieqB_eq, u8L_ofBytes, bytesL_ofBytes, bytesOf_ofBytes, ofBytes_plainL, ofBytes_length, AV.intOf, AV.isInt, f7, ii, hM]; omega))
        replace key := key (by
          (try simp only [kept_eq, bytesL_ofBytes, bytesOf_ofBytes, Option.getD_some, hr, f7, ii, k0, hz, zr, z1, m1, gl, gp, bp, AV.intOf])
          first
            | done
            | rfl
            | assumption
            | exact ofBytes_plainL _
            | exact u8L_ofBytes _
            | (simp [nbeq, nble, iltB_eq, ileB_eq, ieqB_eq, u8L_ofBytes, bytesL_ofBytes, bytesOf_ofBytes, ofBytes_plainL, ofBytes_length, AV.intOf, AV.isInt, f7, ii, hM]; done)
            | (simp [nbeq, nble, iltB_eq, ileB_eq, ieqB_eq, u8L_ofBytes, bytesL_ofBytes, bytesOf_ofBytes, ofBytes_plainL, ofBytes_length, AV.intOf, AV.isInt, f7, ii, hM]; omega))
        replace key := key (by
          (try simp only [kept_eq, bytesL_ofBytes, bytesOf_ofBytes, Option.getD_some, hr, f7, ii, k0, hz, zr, z1, m1, gl, gp, bp, AV.intOf])
          first
            | done
            | rfl
            | assumption
            | exact ofBytes_plainL _
            | exact u8L_ofBytes _
            | (simp [nbeq, nble, iltB_eq, ileB_eq, ieqB_eq, u8L_ofBytes, bytesL_ofBytes, bytesOf_ofBytes, ofBytes_plainL, ofBytes_length, AV.intOf, AV.isInt, f7, ii, hM]; done)
            | (simp [nbeq, nble, iltB_eq, ileB_eq, ieqB_eq, u8L_ofBytes, bytesL_ofBytes, bytesOf_ofBytes, ofBytes_plainL, ofBytes_length, AV.intOf, AV.isInt, f7, ii, hM]; omega))
        replace key := key (by
          (try simp only [kept_eq, bytesL_ofBytes, bytesOf_ofBytes, Option.getD_some, hr, f7, ii, k0, hz, zr, z1, m1, gl, gp, bp, AV.intOf])
          first
            | done
            | rfl
            | assumption
            | exact ofBytes_plainL _
            | exact u8L_ofBytes _
            | (simp [nbeq, nble, iltB_eq, ileB_eq, ieqB_eq, u8L_ofBytes, bytesL_ofBytes, bytesOf_ofBytes, ofBytes_plainL, ofBytes_length, AV.intOf, AV.isInt, f7, ii, hM]; done)
            | (simp [nbeq, nble, iltB_eq, ileB_eq, ieqB_eq, u8L_ofBytes, bytesL_ofBytes, bytesOf_ofBytes, ofBytes_plainL, ofBytes_length, AV.intOf, AV.isInt, f7, ii, hM]; omega))
        obtain ⟨h', h, _⟩ := key
        refine ⟨h', h.trans ?_⟩
        (try simp only [kept_eq, bytesL_ofBytes, bytesOf_ofBytes, Option.getD_some, hr, f7, ii, k0, hz, zr, z1, m1, gl, gp, bp, AV.intOf])
        first
          | done
          | rfl
          | (simp [f7, ii, hM]; done)
      | false =>
        have a2 : (listAt (ofBytes (padB 512 (b.take 512))) 2).getD AV.undef = .int .u8 (byteI (padB 512 (b.take 512)) 2) := at_of _ 2 (by omega)
        have a3 : (listAt (ofBytes (padB 512 (b.take 512))) 3).getD AV.undef = .int .u8 (byteI (padB 512 (b.take 512)) 3) := at_of _ 3 (by omega)
        cases zr : rightC (byteI (padB 512 (b.take 512)) 2) (byteI (padB 512 (b.take 512)) 3) with
        | true =>
          have z1 := not_commitB hz zr (genI_lt _)
          have key := sc_n_wn2 s c g a b.length (ofBytes b)
          replace key := key (by
            (try simp only [kept_eq, bytesL_ofBytes, bytesOf_ofBytes, Option.getD_some, hr, f7, ii, k0, hz, zr, z1, m1, a2, a3, gl, gp, bp, AV.intOf])
            first
              | done
              | rfl
              | assumption
              | exact ofBytes_plainL _
              | exact u8L_ofBytes _
              | (simp [nbeq, nble, iltB_eq, ileB_eq, ieqB_eq, u8L_ofBytes, bytesL_ofBytes, bytesOf_ofBytes, ofBytes_plainL, ofBytes_length, AV.intOf, AV.isInt, f7, ii, hM]; done)
              | (simp [nbeq, nble, iltB_eq, ileB_eq, ieqB_eq, u8L_ofBytes, bytesL_ofBytes, bytesOf_ofBytes, ofBytes_plainL, ofBytes_length, AV.intOf, AV.isInt, f7, ii, hM]; omega))
          replace key := key (by
            (try simp only [kept_eq, bytesL_ofBytes, bytesOf_ofBytes, Option.getD_some, hr, f7, ii, k0, hz, zr, z1, m1, a2, a3, gl, gp, bp, AV.intOf])
            first
              | done
              | rfl
              | assumption
              | exact ofBytes_plainL _
              | exact u8L_ofBytes _
              | (simp [nbeq, nble, iltB_eq, ileB_eq, ieqB_eq, u8L_ofBytes, bytesL_ofBytes, bytesOf_ofBytes, ofBytes_plainL, ofBytes_length, AV.intOf, AV.isInt, f7, ii, hM]; done)
              | (simp [nbeq, nble, iltB_eq, ileB_eq, ieqB_eq, u8L_ofBytes, bytesL_ofBytes, bytesOf_ofBytes, ofBytes_plainL, ofBytes_length, AV.intOf, AV.isInt, f7, ii, hM]; omega))
          replace key := key (by
            (try simp only [kept_eq, bytesL_ofBytes, bytesOf_ofBytes, Option.getD_some, hr, f7, ii, k0, hz, zr, z1, m1, a2, a3, gl, gp, bp, AV.intOf])
            first
              | done
              | rfl
              | assumption
              | exact ofBytes_plainL _
              | exact u8L_ofBytes _
              | (simp [nbeq, nble, iltB_eq, ileB_eq, ieqB_eq, u8L_ofBytes, bytesL_ofBytes, bytesOf_ofBytes, ofBytes_plainL, ofBytes_length, AV.intOf, AV.isInt, f7, ii, hM]; done)
              | (simp [nbeq, nble, iltB_eq, ileB_eq, ieqB_eq, u8L_ofBytes, bytesL_ofBytes, bytesOf_ofBytes, ofBytes_plainL, ofBytes_length, AV.intOf, AV.isInt, f7, ii, hM]; omega))
          replace key := key (by
            (try simp only [kept_eq, bytesL_ofBytes, bytesOf_ofBytes, Option.getD_some, hr, f7, ii, k0, hz, zr, z1, m1, a2, a3, gl, gp, bp, AV.intOf])
            first
              | done
              | rfl
              | assumption
              | exact ofBytes_plainL _
              | exact u8L_ofBytes _
              | (simp [nbeq, nble, iltB_eq, ileB_eq, ieqB_eq, u8L_ofBytes, bytesL_ofBytes, bytesOf_ofBytes, ofBytes_plainL, ofBytes_length, AV.intOf, AV.isInt, f7, ii, hM]; done)
              | (simp [nbeq, nble, iltB_eq, ileB_eq, ieqB_eq, u8L_ofBytes, bytesL_ofBytes, bytesOf_ofBytes, ofBytes_plainL, ofBytes_length, AV.intOf, AV.isInt, f7, ii, hM]; omega))
          replace key := key (by
            (try simp only [kept_eq, bytesL_ofBytes, bytesOf_ofBytes, Option.getD_some, hr, f7, ii, k0, hz, zr, z1, m1, a2, a3, gl, gp, bp, AV.intOf])
            first
              | done
              | rfl
              | assumption
              | exact ofBytes_plainL _
              | exact u8L_ofBytes _
              | (simp [nbeq, nble, iltB_eq, ileB_eq, ieqB_eq, u8L_ofBytes, bytesL_ofBytes, bytesOf_ofBytes, ofBytes_plainL, ofBytes_length, AV.intOf, AV.isInt, f7, ii, hM]; done)
              | (simp [nbeq, nble, iltB_eq, ileB_eq, ieqB_eq, u8L_ofBytes, bytesL_ofBytes, bytesOf_ofBytes, ofBytes_plainL, ofBytes_length, AV.intOf, AV.isInt, f7, ii, hM]; omega))
          replace key := key (by
            (try simp only [kept_eq, bytesL_ofBytes, bytesOf_ofBytes, Option.getD_some, hr, f7, ii, k0, hz, zr, z1, m1, a2, a3, gl, gp, bp, AV.intOf])
            first
              | done
              | rfl
              | assumption
              | exact ofBytes_plainL _
              | exact u8L_ofBytes _
              | (simp [nbeq, nble, iltB_eq, ileB_eq, ieqB_eq, u8L_ofBytes, bytesL_ofBytes, bytesOf_ofBytes, ofBytes_plainL, ofBytes_length, AV.intOf, AV.isInt, f7, ii, hM]; done)
              | (simp [nbeq, nble, iltB_eq, ileB_eq, ieqB_eq, u8L_ofBytes, bytesL_ofBytes, bytesOf_ofBytes, ofBytes_plainL, ofBytes_length, AV.intOf, AV.isInt, f7, ii, hM]; omega))
          replace key := key (by
            (try simp only [kept_eq, bytesL_ofBytes, bytesOf_ofBytes, Option.getD_some, hr, f7, ii, k0, hz, zr, z1, m1, a2, a3, gl, gp, bp, AV.intOf])
            first
              | done
              | rfl
              | assumption
              | exact ofBytes_plainL _
              | exact u8L_ofBytes _
              | (simp [nbeq, nble, iltB_eq, ileB_eq, ieqB_eq, u8L_ofBytes, bytesL_ofBytes, bytesOf_ofBytes, ofBytes_plainL, ofBytes_length, AV.intOf, AV.isInt, f7, ii, hM]; done)
              | (simp [nbeq, nble, iltB_eq, ileB_eq, ieqB_eq, u8L_ofBytes, bytesL_ofBytes, bytesOf_ofBytes, ofBytes_plainL, ofBytes_length, AV.intOf, AV.isInt, f7, ii, hM]; omega))
          replace key := key (by
            (try simp only [kept_eq, bytesL_ofBytes, bytesOf_ofBytes, Option.getD_some, hr, f7, ii, k0, hz, zr, z1, m1, a2, a3, gl, gp, bp, AV.intOf])
            first
              | done
              | rfl
              | assumption
              | exact ofBytes_plainL _
              | exact u8L_ofBytes _
              | (simp [nbeq, nble, iltB_eq, ileB_eq, ieqB_eq, u8L_ofBytes, bytesL_ofBytes, bytesOf_ofBytes, ofBytes_plainL, ofBytes_length, AV.intOf, AV.isInt, f7, ii, hM]; done)
              | (simp [nbeq, nble, iltB_eq, ileB_eq, ieqB_eq, u8L_ofBytes, bytesL_ofBytes, bytesOf_ofBytes, ofBytes_plainL, ofBytes_length, AV.intOf, AV.isInt, f7, ii, hM]; omega))
          replace key := key (by
            (try simp only [kept_eq, bytesL_ofBytes, bytesOf_ofBytes, Option.getD_some, hr, f7, ii, k0, hz, zr, z1, m1, a2, a3, gl, gp, bp, AV.intOf])
            first
              | done
              | rfl
              | assumption
              | exact ofBytes_plainL _
              | exact u8L_ofBytes _
              | (simp [nbeq, nble, iltB_eq, ileB_eq, ieqB_eq, u8L_ofBytes, bytesL_ofBytes, bytesOf_ofBytes, ofBytes_plainL, ofBytes_length, AV.intOf, AV.isInt, f7, ii, hM]; done)
              | (simp [nbeq, nble, iltB_eq, ileB_eq, ieqB_eq, u8L_ofBytes, bytesL_ofBytes, bytesOf_ofBytes, ofBytes_plainL, ofBytes_length, AV.intOf, AV.isInt, f7, ii, hM]; omega))
          replace key := key (by
            (try simp only [kept_eq, bytesL_ofBytes, bytesOf_ofBytes, Option.getD_some, hr, f7, ii, k0, hz, zr, z1, m1, a2, a3, gl, gp, bp, AV.intOf])
            first
              | done
              | rfl
              | assumption
              | exact ofBytes_plainL _
              | exact u8L_ofBytes _
              | (simp [nbeq, nble, iltB_eq, ileB_eq, ieqB_eq, u8L_ofBytes, bytesL_ofBytes, bytesOf_ofBytes, ofBytes_plainL, ofBytes_length, AV.intOf, AV.isInt, f7, ii, hM]; done)
              | (simp [nbeq, nble, iltB_eq, ileB_eq, ieqB_eq, u8L_ofBytes, bytesL_ofBytes, bytesOf_ofBytes, ofBytes_plainL, ofBytes_length, AV.intOf, AV.isInt, f7, ii, hM]; omega))
          replace key := key (by
            (try simp only [kept_eq, bytesL_ofBytes, bytesOf_ofBytes, Option.getD_some, hr, f7, ii, k0, hz, zr, z1, m1, a2, a3, gl, gp, bp, AV.intOf])
            first
              | done
              | rfl
              | assumption
              | exact ofBytes_plainL _
              | exact u8L_ofBytes _
              | (simp [nbeq, nble, iltB_eq, ileB_eq, ieqB_eq, u8L_ofBytes, bytesL_ofBytes, bytesOf_ofBytes, ofBytes_plainL, ofBytes_length, AV.intOf, AV.isInt, f7, ii, hM]; done)
              | (simp [nbeq, nble, iltB_eq, ileB_eq, ieqB_eq, u8L_ofBytes, bytesL_ofBytes, bytesOf_ofBytes, ofBytes_plainL, ofBytes_length, AV.intOf, AV.isInt, f7, ii, hM]; omega))
          replace key := key (by
            (try simp only [kept_eq, bytesL_ofBytes, bytesOf_ofBytes, Option.getD_some, hr, f7, ii, k0, hz, zr, z1, m1, a2, a3, gl, gp, bp, AV.intOf])
            first
              | done
              | rfl
              | assumption
              | exact ofBytes_plainL _
              | exact u8L_ofBytes _
              | (simp [nbeq, nble, iltB_eq, ileB_eq, ieqB_eq, u8L_ofBytes, bytesL_ofBytes, bytesOf_ofBytes, ofBytes_plainL, ofBytes_length, AV.intOf, AV.isInt, f7, ii, hM]; done)
              | (simp [nbeq, nble, iltB_eq, ileB_eq, ieqB_eq, u8L_ofBytes, bytesL_ofBytes, bytesOf_ofBytes, ofBytes_plainL, ofBytes_length, AV.intOf, AV.isInt, f7, ii, hM]; omega))
          replace key := key (by
            (try simp only [kept_eq, bytesL_ofBytes, bytesOf_ofBytes, Option.getD_some, hr, f7, ii, k0, hz, zr, z1, m1, a2, a3, gl, gp, bp, AV.intOf])
            first
              | done
              | rfl
              | assumption
              | exact ofBytes_plainL _
              | exact u8L_ofBytes _
              | (simp [nbeq, nble, iltB_eq, ileB_eq, ieqB_eq, u8L_ofBytes, bytesL_ofBytes, bytesOf_ofBytes, ofBytes_plainL, ofBytes_length, AV.intOf, AV.isInt, f7, ii, hM]; done)
              | (simp [nbeq, nble, iltB_eq, ileB_eq, ieqB_eq, u8L_ofBytes, bytesL_ofBytes, bytesOf_ofBytes, ofBytes_plainL, ofBytes_length, AV.intOf, AV.isInt, f7, ii, hM]; omega))
          replace key := key (by
            (try simp only [kept_eq, bytesL_ofBytes, bytesOf_ofBytes, Option.getD_some, hr, f7, ii, k0, hz, zr, z1, m1, a2, a3, gl, gp, bp, AV.intOf])
            first
              | done
              | rfl
              | assumption
              | exact ofBytes_plainL _
              | exact u8L_ofBytes _
              | (simp [nbeq, nble, iltB_eq, ileB_eq, ieqB_eq, u8L_ofBytes, bytesL_ofBytes, bytesOf_ofBytes, ofBytes_plainL, ofBytes_length, AV.intOf, AV.isInt, f7, ii, hM]; done)
              | (simp [nbeq, nble, iltB_eq, ileB_eq, ieqB_eq, u8L_ofBytes, bytesL_ofBytes, bytesOf_ofBytes, ofBytes_plainL, ofBytes_length, AV.intOf, AV.isInt, f7, ii, hM]; omega))
          replace key := key (by
            (try simp only [kept_eq, bytesL_ofBytes, bytesOf_ofBytes, Option.getD_some, hr, f7, ii, k0, hz, zr, z1, m1, a2, a3, gl, gp, bp, AV.intOf])
            first
              | done
              | rfl
              | assumption
              | exact ofBytes_plainL _
              | exact u8L_ofBytes _
              | (simp [nbeq, nble, iltB_eq, ileB_eq, ieqB_eq, u8L_ofBytes, bytesL_ofBytes, bytesOf_ofBytes, ofBytes_plainL, ofBytes_length, AV.intOf, AV.isInt, f7, ii, hM]; done)
              | (simp [nbeq, nble, iltB_eq, ileB_eq, ieqB_eq, u8L_ofBytes, bytesL_ofBytes, bytesOf_ofBytes, ofBytes_plainL, ofBytes_length, AV.intOf, AV.isInt, f7, ii, hM]; omega))
          replace key := key (by
            (try simp only [kept_eq, bytesL_ofBytes, bytesOf_ofBytes, Option.getD_some, hr, f7, ii, k0, hz, zr, z1, m1, a2, a3, gl, gp, bp, AV.intOf])
            first
              | done
              | rfl
              | assumption
              | exact ofBytes_plainL _
              | exact u8L_ofBytes _
              | (simp [nbeq, nble, iltB_eq, ileB_eq, ieqB_eq, u8L_ofBytes, bytesL_ofBytes, bytesOf_ofBytes, ofBytes_plainL, ofBytes_length, AV.intOf, AV.isInt, f7, ii, hM]; done)
              | (simp [nbeq, nble, iltB_eq, ileB_eq, ieqB_eq, u8L_ofBytes, bytesL_ofBytes, bytesOf_ofBytes, ofBytes_plainL, ofBytes_length, AV.intOf, AV.isInt, f7, ii, hM]; omega))
          replace key := key (by
            (try simp only [kept_eq, bytesL_ofBytes, bytesOf_ofBytes, Option.getD_some, hr, f7, ii, k0, hz, zr, z1, m1, a2, a3, gl, gp, bp, AV.intOf])
            first
              | done
              | rfl
              | assumption
              | exact ofBytes_plainL _
              | exact u8L_ofBytes _
              | (simp [nbeq, nble, iltB_eq, ileB_eq, ieqB_eq, u8L_ofBytes, bytesL_ofBytes, bytesOf_ofBytes, ofBytes_plainL, ofBytes_length, AV.intOf, AV.isInt, f7, ii, hM]; done)
              | (simp [nbeq, nble, iltB_eq, ileB_eq, ieqB_eq, u8L_ofBytes, bytesL_ofBytes, bytesOf_ofBytes, ofBytes_plainL, ofBytes_length, AV.intOf, AV.isInt, f7, ii, hM]; omega))
          replace key := key (by
            (try simp only [kept_eq, bytesL_ofBytes, bytesOf_ofBytes, Option.getD_some, hr, f7, ii, k0, hz, zr, z1, m1, a2, a3, gl, gp, bp, AV.intOf])
            first
              | done
              | rfl
              | assumption
              | exact ofBytes_plainL _
              | exact u8L_ofBytes _
              | (simp [nbeq, nble, iltB_eq, ileB_eq, ieqB_eq, u8L_ofBytes, bytesL_ofBytes, bytesOf_ofBytes, ofBytes_plainL, ofBytes_length, AV.intOf, AV.isInt, f7, ii, hM]; done)
              | (simp [nbeq, nble, iltB_eq, ileB_eq, ieqB_eq, u8L_ofBytes, bytesL_ofBytes, bytesOf_ofBytes, ofBytes_plainL, ofBytes_length, AV.intOf, AV.isInt, f7, ii, hM]; omega))
          replace key := key (by
            (try simp only [kept_eq, bytesL_ofBytes, bytesOf_ofBytes, Option.getD_some, hr, f7, ii, k0, hz, zr, z1, m1, a2, a3, gl, gp, bp, AV.intOf])
            first
              | done
              | rfl
              | assumption
              | exact ofBytes_plainL _
              | exact u8L_ofBytes _
              | (simp [nbeq, nble, iltB_eq, ileB_eq, ieqB_eq, u8L_ofBytes, bytesL_ofBytes, bytesOf_ofBytes, ofBytes_plainL, ofBytes_length, AV.intOf, AV.isInt, f7, ii, hM]; done)
              | (simp [nbeq, nble, iltB_eq, ileB_eq, ieqB_eq, u8L_ofBytes, bytesL_ofBytes, bytesOf_ofBytes, ofBytes_plainL, ofBytes_length, AV.intOf, AV.isInt, f7, ii, hM]; omega))
          replace key := key (by
            (try simp only [kept_eq, bytesL_ofBytes, bytesOf_ofBytes, Option.getD_some, hr, f7, ii, k0, hz, zr, z1, m1, a2, a3, gl, gp, bp, AV.intOf])
            first
              | done
              | rfl
              | assumption
              | exact ofBytes_plainL _
              | exact u8L_ofBytes _
              | (simp [nbeq, nble, iltB_eq, ileB_eq, ieqB_eq, u8L_ofBytes, bytesL_ofBytes, bytesOf_ofBytes, ofBytes_plainL, ofBytes_length, AV.intOf, AV.isInt, f7, ii, hM]; done)
              | (simp [nbeq, nble, iltB_eq, ileB_eq, ieqB_eq, u8L_ofBytes, bytesL_ofBytes, bytesOf_ofBytes, ofBytes_plainL, ofBytes_length, AV.intOf, AV.isInt, f7, ii, hM]; omega))
          replace key := key (by
            (try simp only [kept_eq, bytesL_ofBytes, bytesOf_ofBytes, Option.getD_some, hr, f7, ii, k0, hz, zr, z1, m1, a2, a3, gl, gp, bp, AV.intOf])
            first
              | done
              | rfl
              | assumption
              | exact ofBytes_plainL _
              | exact u8L_ofBytes _
              | (simp [nbeq, nble, iltB_eq, ileB_eq, ieqB_eq, u8L_ofBytes, bytesL_ofBytes, bytesOf_ofBytes, ofBytes_plainL, ofBytes_length, AV.intOf, AV.isInt, f7, ii, hM]; done)
              | (simp [nbeq, nble, iltB_eq, ileB_eq, ieqB_eq, u8L_ofBytes, bytesL_ofBytes, bytesOf_ofBytes, ofBytes_plainL, ofBytes_length, AV.intOf, AV.isInt, f7, ii, hM]; omega))
          obtain ⟨h', h, _⟩ := key
          refine ⟨h', h.trans ?_⟩
          (try simp only [kept_eq, bytesL_ofBytes, bytesOf_ofBytes, Option.getD_some, hr, f7, ii, k0, hz, zr, z1, m1, a2, a3, gl, gp, bp, AV.intOf])
          first
            | done
            | rfl
            | (simp [f7, ii, hM]; done)
        | false =>
          have z1 := (bytesEq_nil hM).2
          have key := sc_n_wn3 s c g a b.length (ofBytes b)
          replace key := key (by
            (try simp only [kept_eq, bytesL_ofBytes, bytesOf_ofBytes, Option.getD_some, hr, f7, ii, k0, hz, zr, z1, m1, a2, a3, gl, gp, bp, AV.intOf])
            first
              | done
              | rfl
              | assumption
              | exact ofBytes_plainL _
              | exact u8L_ofBytes _
              | (simp [nbeq, nble, iltB_eq, ileB_eq, ieqB_eq, u8L_ofBytes, bytesL_ofBytes, bytesOf_ofBytes, ofBytes_plainL, ofBytes_length, AV.intOf, AV.isInt, f7, ii, hM]; done)
              | (simp [nbeq, nble, iltB_eq, ileB_eq, ieqB_eq, u8L_ofBytes, bytesL_ofBytes, bytesOf_ofBytes, ofBytes_plainL, ofBytes_length, AV.intOf, AV.isInt, f7, ii, hM]; omega))
          replace key := key (by
            (try simp only [kept_eq, bytesL_ofBytes, bytesOf_ofBytes, Option.getD_some, hr, f7, ii, k0, hz, zr, z1, m1, a2, a3, gl, gp, bp, AV.intOf])
            first
              | done
              | rfl
              | assumption
              | exact ofBytes_plainL _
              | exact u8L_ofBytes _
              | (simp [nbeq, nble, iltB_eq, ileB_eq, ieqB_eq, u8L_ofBytes, bytesL_ofBytes, bytesOf_ofBytes, ofBytes_plainL, ofBytes_length, AV.intOf, AV.isInt, f7, ii, hM]; done)
              | (simp [nbeq, nble, iltB_eq, ileB_eq, ieqB_eq, u8L_ofBytes, bytesL_ofBytes, bytesOf_ofBytes, ofBytes_plainL, ofBytes_length, AV.intOf, AV.isInt, f7, ii, hM]; omega))
          replace key := key (by
            (try simp only [kept_eq, bytesL_ofBytes, bytesOf_ofBytes, Option.getD_some, hr, f7, ii, k0, hz, zr, z1, m1, a2, a3, gl, gp, bp, AV.intOf])
            first
              | done
              | rfl
              | assumption
              | exact ofBytes_plainL _
              | exact u8L_ofBytes _
              | (simp [nbeq, nble, iltB_eq, ileB_eq, ieqB_eq, u8L_ofBytes, bytesL_ofBytes, bytesOf_ofBytes, ofBytes_plainL, ofBytes_length, AV.intOf, AV.isInt, f7, ii, hM]; done)
              | (simp [nbeq, nble, iltB_eq, ileB_eq, ieqB_eq, u8L_ofBytes, bytesL_ofBytes, bytesOf_ofBytes, ofBytes_plainL, ofBytes_length, AV.intOf, AV.isInt, f7, ii, hM]; omega))
          replace key := key (by
            (try simp only [kept_eq, bytesL_ofBytes, bytesOf_ofBytes, Option.getD_some, hr, f7, ii, k0, hz, zr, z1, m1, a2, a3, gl, gp, bp, AV.intOf])
            first
              | done
              | rfl
              | assumption
              | exact ofBytes_plainL _
              | exact u8L_ofBytes _
              | (simp [nbeq, nble, iltB_eq, ileB_eq, ieqB_eq, u8L_ofBytes, bytesL_ofBytes, bytesOf_ofBytes, ofBytes_plainL, ofBytes_length, AV.intOf, AV.isInt, f7, ii, hM]; done)
              | (simp [nbeq, nble, iltB_eq, ileB_eq, ieqB_eq, u8L_ofBytes, bytesL_ofBytes, bytesOf_ofBytes, ofBytes_plainL, ofBytes_length, AV.intOf, AV.isInt, f7, ii, hM]; omega))
          replace key := key (by
            (try simp only [kept_eq, bytesL_ofBytes, bytesOf_ofBytes, Option.getD_some, hr, f7, ii, k0, hz, zr, z1, m1, a2, a3, gl, gp, bp, AV.intOf])
            first
              | done
              | rfl
              | assumption
              | exact ofBytes_plainL _
              | exact u8L_ofBytes _
              | (simp [nbeq, nble, iltB_eq, ileB_eq, ieqB_eq, u8L_ofBytes, bytesL_ofBytes, bytesOf_ofBytes, ofBytes_plainL, ofBytes_length, AV.intOf, AV.isInt, f7, ii, hM]; done)
              | (simp [nbeq, nble, iltB_eq, ileB_eq, ieqB_eq, u8L_ofBytes, bytesL_ofBytes, bytesOf_ofBytes, ofBytes_plainL, ofBytes_length, AV.intOf, AV.isInt, f7, ii, hM]; omega))
          replace key := key (by
            (try simp only [kept_eq, bytesL_ofBytes, bytesOf_ofBytes, Option.getD_some, hr, f7, ii, k0, hz, zr, z1, m1, a2, a3, gl, gp, bp, AV.intOf])
            first
              | done
              | rfl
              | assumption
              | exact ofBytes_plainL _
              | exact u8L_ofBytes _
              | (simp [nbeq, nble, iltB_eq, ileB_eq, ieqB_eq, u8L_ofBytes, bytesL_ofBytes, bytesOf_ofBytes, ofBytes_plainL, ofBytes_length, AV.intOf, AV.isInt, f7, ii, hM]; done)
              | (simp [nbeq, nble, iltB_eq, ileB_eq, ieqB_eq, u8L_ofBytes, bytesL_ofBytes, bytesOf_ofBytes, ofBytes_plainL, ofBytes_length, AV.intOf, AV.isInt, f7, ii, hM]; omega))
          replace key := key (by
            (try simp only [kept_eq, bytesL_ofBytes, bytesOf_ofBytes, Option.getD_some, hr, f7, ii, k0, hz, zr, z1, m1, a2, a3, gl, gp, bp, AV.intOf])
            first
              | done
              | rfl
              | assumption
              | exact ofBytes_plainL _
              | exact u8L_ofBytes _
              | (simp [nbeq, nble, iltB_eq, ileB_eq, ieqB_eq, u8L_ofBytes, bytesL_ofBytes, bytesOf_ofBytes, ofBytes_plainL, ofBytes_length, AV.intOf, AV.isInt, f7, ii, hM]; done)
              | (simp [nbeq, nble, iltB_eq, ileB_eq, ieqB_eq, u8L_ofBytes, bytesL_ofBytes, bytesOf_ofBytes, ofBytes_plainL, ofBytes_length, AV.intOf, AV.isInt, f7, ii, hM]; omega))
          replace key := key (by
            (try simp only [kept_eq, bytesL_ofBytes, bytesOf_ofBytes, Option.getD_some, hr, f7, ii, k0, hz, zr, z1, m1, a2, a3, gl, gp, bp, AV.intOf])
            first
              | done
              | rfl
              | assumption
              | exact ofBytes_plainL _
              | exact u8L_ofBytes _
              | (simp [nbeq, nble, iltB_eq, ileB_eq, ieqB_eq, u8L_ofBytes, bytesL_ofBytes, bytesOf_ofBytes, ofBytes_plainL, ofBytes_length, AV.intOf, AV.isInt, f7, ii, hM]; done)
              | (simp [nbeq, nble, iltB_eq, ileB_eq, ieqB_eq, u8L_ofBytes, bytesL_ofBytes, bytesOf_ofBytes, ofBytes_plainL, ofBytes_length, AV.intOf, AV.isInt, f7, ii, hM]; omega))
          replace key := key (by
            (try simp only [kept_eq, bytesL_ofBytes, bytesOf_ofBytes, Option.getD_some, hr, f7, ii, k0, hz, zr, z1, m1, a2, a3, gl, gp, bp, AV.intOf])
            first
              | done
              | rfl
              | assumption
              | exact ofBytes_plainL _
              | exact u8L_ofBytes _
              | (simp [nbeq, nble, iltB_eq, ileB_eq, ieqB_eq, u8L_ofBytes, bytesL_ofBytes, bytesOf_ofBytes, ofBytes_plainL, ofBytes_length, AV.intOf, AV.isInt, f7, ii, hM]; done)
              | (simp [nbeq, nble, iltB_eq, ileB_eq, ieqB_eq, u8L_ofBytes, bytesL_ofBytes, bytesOf_ofBytes, ofBytes_plainL, ofBytes_length, AV.intOf, AV.isInt, f7, ii, hM]; omega))
          replace key := key (by
            (try simp only [kept_eq, bytesL_ofBytes, bytesOf_ofBytes, Option.getD_some, hr, f7, ii, k0, hz, zr, z1, m1, a2, a3, gl, gp, bp, AV.intOf])
            first
              | done
              | rfl
              | assumption
              | exact ofBytes_plainL _
              | exact u8L_ofBytes _
              | (simp [nbeq, nble, iltB_eq, ileB_eq, ieqB_eq, u8L_ofBytes, bytesL_ofBytes, bytesOf_ofBytes, ofBytes_plainL, ofBytes_length, AV.intOf, AV.isInt, f7, ii, hM]; done)
              | (simp [nbeq, nble, iltB_eq, ileB_eq, ieqB_eq, u8L_ofBytes, bytesL_ofBytes, bytesOf_ofBytes, ofBytes_plainL, ofBytes_length, AV.intOf, AV.isInt, f7, ii, hM]; omega))
          replace key := key (by
            (try simp only [kept_eq, bytesL_ofBytes, bytesOf_ofBytes, Option.getD_some, hr, f7, ii, k0, hz, zr, z1, m1, a2, a3, gl, gp, bp, AV.intOf])
            first
              | done
              | rfl
              | assumption
              | exact ofBytes_plainL _
              | exact u8L_ofBytes _
              | (simp [nbeq, nble, iltB_eq, ileB_eq, ieqB_eq, u8L_ofBytes, bytesL_ofBytes, bytesOf_ofBytes, ofBytes_plainL, ofBytes_length, AV.intOf, AV.isInt, f7, ii, hM]; done)
              | (simp [nbeq, nble, iltB_eq, ileB_eq, ieqB_eq, u8L_ofBytes, bytesL_ofBytes, bytesOf_ofBytes, ofBytes_plainL, ofBytes_length, AV.intOf, AV.isInt, f7, ii, hM]; omega))
          replace key := key (by
            (try simp only [kept_eq, bytesL_ofBytes, bytesOf_ofBytes, Option.getD_some, hr, f7, ii, k0, hz, zr, z1, m1, a2, a3, gl, gp, bp, AV.intOf])
            first
              | done
              | rfl
              | assumption
              | exact ofBytes_plainL _
              | exact u8L_ofBytes _
              | (simp [nbeq, nble, iltB_eq, ileB_eq, ieqB_eq, u8L_ofBytes, bytesL_ofBytes, bytesOf_ofBytes, ofBytes_plainL, ofBytes_length, AV.intOf, AV.isInt, f7, ii, hM]; done)
              | (simp [nbeq, nble, iltB_eq, ileB_eq, ieqB_eq, u8L_ofBytes, bytesL_ofBytes, bytesOf_ofBytes, ofBytes_plainL, ofBytes_length, AV.intOf, AV.isInt, f7, ii, hM]; omega))
          replace key := key (by
            (try simp only [kept_eq, bytesL_ofBytes, bytesOf_ofBytes, Option.getD_some, hr, f7, ii, k0, hz, zr, z1, m1, a2, a3, gl, gp, bp, AV.intOf])
            first
              | done
              | rfl
              | assumption
              | exact ofBytes_plainL _
              | exact u8L_ofBytes _
              | (simp [nbeq, nble, iltB_eq, ileB_eq, ieqB_eq, u8L_ofBytes, bytesL_ofBytes, bytesOf_ofBytes, ofBytes_plainL, ofBytes_length, AV.intOf, AV.isInt, f7, ii, hM]; done)
              | (simp [nbeq, nble, iltB_eq, ileB_eq, ieqB_eq, u8L_ofBytes, bytesL_ofBytes, bytesOf_ofBytes, ofBytes_plainL, ofBytes_length, AV.intOf, AV.isInt, f7, ii, hM]; omega))
          replace key := key (by
            (try simp only [kept_eq, bytesL_ofBytes, bytesOf_ofBytes, Option.getD_some, hr, f7, ii, k0, hz, zr, z1, m1, a2, a3, gl, gp, bp, AV.intOf])
            first
              | done
              | rfl
              | assumption
              | exact ofBytes_plainL _
              | exact u8L_ofBytes _
              | (simp [nbeq, nble, iltB_eq, ileB_eq, ieqB_eq, u8L_ofBytes, bytesL_ofBytes, bytesOf_ofBytes, ofBytes_plainL, ofBytes_length, AV.intOf, AV.isInt, f7, ii, hM]; done)
              | (simp [nbeq, nble, iltB_eq, ileB_eq, ieqB_eq, u8L_ofBytes, bytesL_ofBytes, bytesOf_ofBytes, ofBytes_plainL, ofBytes_length, AV.intOf, AV.isInt, f7, ii, hM]; omega))
          replace key := key (by
            (try simp only [kept_eq, bytesL_ofBytes, bytesOf_ofBytes, Option.getD_some, hr, f7, ii, k0, hz, zr, z1, m1, a2, a3, gl, gp, bp, AV.intOf])
            first
              | done
              | rfl
              | assumption
              | exact ofBytes_plainL _
              | exact u8L_ofBytes _
              | (simp [nbeq, nble, iltB_eq, ileB_eq, ieqB_eq, u8L_ofBytes, bytesL_ofBytes, bytesOf_ofBytes, ofBytes_plainL, ofBytes_length, AV.intOf, AV.isInt, f7, ii, hM]; done)
              | (simp [nbeq, nble, iltB_eq, ileB_eq, ieqB_eq, u8L_ofBytes, bytesL_ofBytes, bytesOf_ofBytes, ofBytes_plainL, ofBytes_length, AV.intOf, AV.isInt, f7, ii, hM]; omega))
          replace key := key (by
            (try simp only [kept_eq, bytesL_ofBytes, bytesOf_ofBytes, Option.getD_some, hr, f7, ii, k0, hz, zr, z1, m1, a2, a3, gl, gp, bp, AV.intOf])
            first
              | done
              | rfl
              | assumption
              | exact ofBytes_plainL _
              | exact u8L_ofBytes _
              | (simp [nbeq, nble, iltB_eq, ileB_eq, ieqB_eq, u8L_ofBytes, bytesL_ofBytes, bytesOf_ofBytes, ofBytes_plainL, ofBytes_length, AV.intOf, AV.isInt, f7, ii, hM]; done)
              | (simp [nbeq, nble, iltB_eq, ileB_eq, ieqB_eq, u8L_ofBytes, bytesL_ofBytes, bytesOf_ofBytes, ofBytes_plainL, ofBytes_length, AV.intOf, AV.isInt, f7, ii, hM]; omega))
          replace key := key (by
            (try simp only [kept_eq, bytesL_ofBytes, bytesOf_ofBytes, Option.getD_some, hr, f7, ii, k0, hz, zr, z1, m1, a2, a3, gl, gp, bp, AV.intOf])
            first
              | done
              | rfl
              | assumption
              | exact ofBytes_plainL _
              | exact u8L_ofBytes _
              | (simp [nbeq, nble, iltB_eq, ileB_eq, ieqB_eq, u8L_ofBytes, bytesL_ofBytes, bytesOf_ofBytes, ofBytes_plainL, ofBytes_length, AV.intOf, AV.isInt, f7, ii, hM]; done)
              | (simp [nbeq, nble, iltB_eq, ileB_eq, ieqB_eq, u8L_ofBytes, bytesL_ofBytes, bytesOf_ofBytes, ofBytes_plainL, ofBytes_length, AV.intOf, AV.isInt, f7, ii, hM]; omega))
          replace key := key (by
            (try simp only [kept_eq, bytesL_ofBytes, bytesOf_ofBytes, Option.getD_some, hr, f7, ii, k0, hz, zr, z1, m1, a2, a3, gl, gp, bp, AV.intOf])
            first
              | done
              | rfl
              | assumption
              | exact ofBytes_plainL _
              | exact u8L_ofBytes _
              | (simp [nbeq, nble, iltB_eq, ileB_eq, ieqB_eq, u8L_ofBytes, bytesL_ofBytes, bytesOf_ofBytes, ofBytes_plainL, ofBytes_length, AV.intOf, AV.isInt, f7, ii, hM]; done)
              | (simp [nbeq, nble, iltB_eq, ileB_eq, ieqB_eq, u8L_ofBytes, bytesL_ofBytes, bytesOf_ofBytes, ofBytes_plainL, ofBytes_length, AV.intOf, AV.isInt, f7, ii, hM]; omega))
          obtain ⟨h', h, _⟩ := key
          refine ⟨h', h.trans ?_⟩
          (try simp only [kept_eq, bytesL_ofBytes, bytesOf_ofBytes, Option.getD_some, hr, f7, ii, k0, hz, zr, z1, m1, a2, a3, gl, gp, bp, AV.intOf])
          first
            | done
            | rfl
            | (simp [f7, ii, hM]; done)
end Go.Proofs.Ytecncappdnhbaaa
end
end
