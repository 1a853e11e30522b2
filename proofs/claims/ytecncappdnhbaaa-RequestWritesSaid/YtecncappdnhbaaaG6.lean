/- Texts of the abstract machine and of the laws, merged. -/
import Derived.Test.YtecncappdnhbaaaG5
import Derived.Test.YtecncappdnhbaaaG3
import Derived.Test.YtecncappdnhbaaaG4
set_option autoImplicit false
set_option linter.unusedVariables false
set_option linter.unusedSimpArgs false
set_option linter.unusedSectionVars false
set_option maxRecDepth 100000
section
noncomputable section
namespace Go.Ab.M
def pst (op : Int) (r0 : List UInt8) (k0 : Bool) : Nat → List UInt8 × Bool × List UInt32 × List (List UInt8)
 | 0 => (r0, k0, [], [])
 | i + 1 => let s := pst op r0 k0 i
  if op = 2 then (rsB 440 (rsB 4 s.1), (s.2.1 && Nat.ble 4 s.1.length) && Nat.ble 440 (rsB 4 s.1).length, s.2.2.1 ++ [nuB s.1], s.2.2.2 ++ [tkB 440 (rsB 4 s.1)])
  else (rsB 4 s.1, s.2.1 && Nat.ble 4 s.1.length, s.2.2.1 ++ [nuB s.1], s.2.2.2)
def pR (op : Int) (r0 : List UInt8) (k0 : Bool) (m : Nat) : List UInt8 := (pst op r0 k0 m).1
def pK (op : Int) (r0 : List UInt8) (k0 : Bool) (m : Nat) : Bool := (pst op r0 k0 m).2.1
def pA (op : Int) (r0 : List UInt8) (k0 : Bool) (m : Nat) : List UInt32 := (pst op r0 k0 m).2.2.1
def pD (op : Int) (r0 : List UInt8) (k0 : Bool) (m : Nat) : List (List UInt8) := (pst op r0 k0 m).2.2.2
def enD (l : List (List UInt8)) : List AV := encD (l.map fun b => (false, b))
end Go.Ab.M
namespace Go.Ab
open M
theorem rsB_suf (n : Nat) (r : List UInt8) : rsB n r <:+ r := by
 unfold rsB; split
 · exact List.drop_suffix _ _
 · exact List.suffix_refl _
theorem seg_suf {w r : List UInt8} (h : r <:+ w) : seg w (w.length - r.length) r.length = r := by
 obtain ⟨t, rfl⟩ := h
 unfold seg
 rw [List.length_append, Nat.add_sub_cancel, List.drop_left, List.take_of_length_le (Nat.le_refl _)]
theorem tk_suf (n : Nat) {w r : List UInt8} (h : r <:+ w) {off len : Nat} (hl : len = r.length) (ho : off + len = w.length) : tkO n off len = w.length - (rsB n r).length ∧ tkL n len = (rsB n r).length := by
 subst hl
 unfold tkO tkL rsB
 split
 · rw [List.length_drop]; exact ⟨by omega, rfl⟩
 · exact ⟨by omega, rfl⟩
theorem pst_suf (op : Int) (r0 : List UInt8) (k0 : Bool) (i : Nat) : pR op r0 k0 i <:+ r0 := by
 induction i with
 | zero => exact List.suffix_refl _
 | succ i ih =>
  unfold pR at ih ⊢
  simp only [pst]
  split
  · exact ((rsB_suf 440 _).trans (rsB_suf 4 _)).trans ih
  · exact (rsB_suf 4 _).trans ih
theorem pA_len (op : Int) (r0 : List UInt8) (k0 : Bool) (i : Nat) : (pA op r0 k0 i).length = i := by
 induction i with
 | zero => rfl
 | succ i ih =>
  unfold pA at ih ⊢
  simp only [pst]
  split <;> simp only [List.length_append, ih, List.length_cons, List.length_nil]
theorem pD_len (r0 : List UInt8) (k0 : Bool) (i : Nat) : (pD 2 r0 k0 i).length = i := by
 induction i with
 | zero => rfl
 | succ i ih =>
  unfold pD at ih ⊢
  simp only [pst, if_true]
  simp only [List.length_append, ih, List.length_cons, List.length_nil]
theorem pD_nil {op : Int} (h : op ≠ 2) (r0 : List UInt8) (k0 : Bool) (i : Nat) : pD op r0 k0 i = [] := by
 induction i with
 | zero => rfl
 | succ i ih =>
  unfold pD at ih ⊢
  simp only [pst, if_neg h]
  exact ih
theorem enD_snoc (l : List (List UInt8)) (x : List UInt8) (h : x.length = 440) : enD l ++ [AV.fsl false 440 (ofBytes x)] = enD (l ++ [x]) := by
 have e : AV.fsl false 440 (ofBytes x) = rowD (false, x) := by unfold rowD; rw [h]
 unfold enD
 rw [e, encD_snoc, List.map_append]; rfl
theorem enD_length (l : List (List UInt8)) : (enD l).length = l.length := by unfold enD; rw [encD_length, List.length_map]
theorem enD_plainL (l : List (List UInt8)) : AV.plainL (enD l) = true := encD_plainL _
theorem isU_encU (k : IntKind) (l : List UInt32) : isU k (encU k l) = true := isU_iff.2 ⟨_, rfl⟩
theorem room4 {n : Nat} (h : n ≤ 1000) : appRoom 4 n 1 = true := by unfold appRoom; exact decide_eq_true (by omega)
theorem room24 {n : Nat} (h : n ≤ 1000) : appRoom 24 n 1 = true := by unfold appRoom; exact decide_eq_true (by omega)
end Go.Ab
namespace Go.Proofs.Ytecncappdnhbaaa
open Go.Ab.M Go.Ab Go
theorem pA_e (o off len N : Nat) (cs : List AV) (ok : Bool) (m i : Nat) (h0 : (iltB (Int.ofNat i) (Int.ofNat m)) = false) (h1 : (AV.plainL cs) = true) :
 CodeOK Try.prog (tyCx tys) 77 4 (roundOf (blockOf Try.f60 1)) { fr := frameOf 77 ([2, 4, 5, 26, 27].zip [.ptr (some (0, 0)), .ptr (some (1, 0)), .ptr (some (2, 0)), .int .u8 (Int.ofNat m), .int .u8 (Int.ofNat i)]), ds := upTo 0, H := mkL [.cells true 103 7 [.int .u8 (Int.ofNat 0), .int .u8 (Int.ofNat 0), .int .u8 (Int.ofNat 0), .int .u32 (Int.ofNat 0), .int .u8 (Int.ofNat 0), .slice none 0 (some 0), .slice none 0 (some 0)], .cells true 150 2 [.slice (some (3, off)) len none, .bool ok], .cells true 103 7 [.int .u8 (Int.ofNat o), .int .u8 (Int.ofNat 0), .int .u8 (Int.ofNat 0), .int .u32 (Int.ofNat 0), .int .u8 (Int.ofNat 0), .slice none 0 (some 0), .slice none 0 (some 0)], .cells true 5 N cs] } (AX.exit 1) ⟨frameOf 77 ([2, 4, 5, 26, 27].zip [.ptr (some (0, 0)), .ptr (some (1, 0)), .ptr (some (2, 0)), .int .u8 (Int.ofNat m), .int .u8 (Int.ofNat i)]), upTo 0, mkL [.cells true 103 7 [.int .u8 (Int.ofNat 0), .int .u8 (Int.ofNat 0), .int .u8 (Int.ofNat 0), .int .u32 (Int.ofNat 0), .int .u8 (Int.ofNat 0), .slice none 0 (some 0), .slice none 0 (some 0)], .cells true 150 2 [.slice (some (3, off)) len none, .bool ok], .cells true 103 7 [.int .u8 (Int.ofNat o), .int .u8 (Int.ofNat 0), .int .u8 (Int.ofNat 0), .int .u32 (Int.ofNat 0), .int .u8 (Int.ofNat 0), .slice none 0 (some 0), .slice none 0 (some 0)], .cells true 5 N cs]⟩ :=
 zrows_run (g := 30) (k := 60) (f := 30) (sl := [2, 4, 5, 26, 27]) (ks := [0, 1, 2, 3]) (rs := []) (ds := []) (cxZ cx_goes) all10n (q := qNs [1]) (c := (cnF :: [])) (cq := [true, true, true, true, true, true, true, true, AV.plainL cs]) (by kernel_rfl) ⟨h0, trivial⟩ (holdsB ⟨rfl, rfl, rfl, rfl, rfl, rfl, rfl, rfl, h1, trivial⟩) (by kernel_rfl) (by kernel_rfl) (by kernel_rfl) (by kernel_rfl) (by kernel_rfl)
theorem pA_2 (o off len N : Nat) (cs : List AV) (ok : Bool) (m i : Nat) (h0 : (iltB (Int.ofNat i) (Int.ofNat m)) = true) (h1 : (AV.plainL cs) = true) (h2 : (u8L cs) = true) (h3 : (cs.length.beq N) = true) (h4 : ((off + len).ble N) = true) (h5 : (ieqB (AV.int IntKind.u8 (Int.ofNat o)).intOf (Int.ofNat 2)) = true) (h6 : ((kept (tkO 4 off len) + kept (tkL 4 len)).ble N) = true) (h7 : (AV.plainL (kept (ofBytes (tkB 440 (seg (bytesL cs) (kept (tkO 4 off len)) (kept (tkL 4 len))))))) = true) (h8 : (AV.plainL [AV.fsl false 440 (kept (ofBytes (tkB 440 (seg (bytesL cs) (kept (tkO 4 off len)) (kept (tkL 4 len))))))]) = true) :
 CodeOK Try.prog (tyCx tys) 77 4 (roundOf (blockOf Try.f60 1)) { fr := frameOf 77 ([2, 4, 5, 26, 27].zip [.ptr (some (0, 0)), .ptr (some (1, 0)), .ptr (some (2, 0)), .int .u8 (Int.ofNat m), .int .u8 (Int.ofNat i)]), ds := upTo 0, H := mkL [.cells true 103 7 [.int .u8 (Int.ofNat 0), .int .u8 (Int.ofNat 0), .int .u8 (Int.ofNat 0), .int .u32 (Int.ofNat 0), .int .u8 (Int.ofNat 0), .slice none 0 (some 0), .slice none 0 (some 0)], .cells true 150 2 [.slice (some (3, off)) len none, .bool ok], .cells true 103 7 [.int .u8 (Int.ofNat o), .int .u8 (Int.ofNat 0), .int .u8 (Int.ofNat 0), .int .u32 (Int.ofNat 0), .int .u8 (Int.ofNat 0), .slice none 0 (some 0), .slice none 0 (some 0)], .cells true 5 N cs] } (AX.normal) ⟨frameOf 77 ([2, 4, 5, 26, 27].zip [.ptr (some (0, 0)), .ptr (some (1, 0)), .ptr (some (2, 0)), .int .u8 (Int.ofNat m), .int .u8 (wrapA IntKind.u8 ((Int.ofNat i).add (Int.ofNat 1)))]), upTo 0, mkL [.cells true 103 7 [.int .u8 (Int.ofNat 0), .int .u8 (Int.ofNat 0), .int .u8 (Int.ofNat 0), .int .u32 (Int.ofNat 0), .int .u8 (Int.ofNat 0), .slice none 0 (some 0), .slice none 0 (some 0)], .cells true 150 2 [.slice (some (3, kept (tkO 440 (kept (tkO 4 off len)) (kept (tkL 4 len))))) (kept (tkL 440 (kept (tkL 4 len)))) none, .bool (kept (kept (ok && Nat.ble 4 len) && Nat.ble 440 (kept (tkL 4 len))))], .cells true 103 7 [.int .u8 (Int.ofNat o), .int .u8 (Int.ofNat 0), .int .u8 (Int.ofNat 0), .int .u32 (Int.ofNat 0), .int .u8 (Int.ofNat 0), .slice (some (4, 0)) 1 none, .slice (some (5, 0)) 1 none], .cells true 5 N cs, .cells true 27 1 [.int .u32 (Int.ofNat (kept (numN (seg (bytesL cs) off len))))], .cells true 36 1 [.fsl false 440 (kept (ofBytes (tkB 440 (seg (bytesL cs) (kept (tkO 4 off len)) (kept (tkL 4 len))))))]]⟩ :=
 zrows_run (g := 30) (k := 60) (f := 30) (sl := [2, 4, 5, 26, 27]) (ks := [0, 1, 2, 3, 5, 7]) (rs := []) (ds := []) (cxZ cx_goes) all10n (q := qNs [0,14,0,6,0,0,0,0,6,0,26,0,6,0,14,0,6,0,0,0,0,5,0,5,0,26,0,3]) (c := (cnT :: cnT :: cnT :: cnT :: cnT :: cnT :: cnT :: Cnd.same (AV.agg [AV.int IntKind.u32 (Int.ofNat (kept (numN (seg (bytesL cs) off len))))]) (AV.agg [AV.int IntKind.u32 (Int.ofNat (kept (numN (seg (bytesL cs) off len))))]) :: cnT :: cnT :: cnT :: cnT :: cnT :: cnT :: cnT :: cnT :: Cnd.same (AV.agg [AV.fsl false 440 (kept (ofBytes (tkB 440 (seg (bytesL cs) (kept (tkO 4 off len)) (kept (tkL 4 len))))))]) (AV.agg [AV.fsl false 440 (kept (ofBytes (tkB 440 (seg (bytesL cs) (kept (tkO 4 off len)) (kept (tkL 4 len))))))]) :: [])) (cq := [true, true, true, true, true, true, true, true, true, true, AV.plainL cs, true, true, true, AV.plainL [AV.fsl false 440 (kept (ofBytes (tkB 440 (seg (bytesL cs) (kept (tkO 4 off len)) (kept (tkL 4 len))))))]]) (by kernel_rfl) ⟨h0, h1, h1, h2, h3, h4, h1, rfl, h5, h1, h1, h2, h3, h6, h7, h1, rfl, trivial⟩ (holdsB ⟨rfl, rfl, rfl, rfl, rfl, rfl, rfl, rfl, rfl, rfl, h1, rfl, rfl, rfl, h8, trivial⟩) (by kernel_rfl) (by kernel_rfl) (by kernel_rfl) (by kernel_rfl) (by kernel_rfl)
theorem pA_3 (o off len N : Nat) (cs : List AV) (ok : Bool) (m i : Nat) (h0 : (iltB (Int.ofNat i) (Int.ofNat m)) = true) (h1 : (AV.plainL cs) = true) (h2 : (u8L cs) = true) (h3 : (cs.length.beq N) = true) (h4 : ((off + len).ble N) = true) (h5 : (ieqB (AV.int IntKind.u8 (Int.ofNat o)).intOf (Int.ofNat 2)) = false) :
 CodeOK Try.prog (tyCx tys) 77 4 (roundOf (blockOf Try.f60 1)) { fr := frameOf 77 ([2, 4, 5, 26, 27].zip [.ptr (some (0, 0)), .ptr (some (1, 0)), .ptr (some (2, 0)), .int .u8 (Int.ofNat m), .int .u8 (Int.ofNat i)]), ds := upTo 0, H := mkL [.cells true 103 7 [.int .u8 (Int.ofNat 0), .int .u8 (Int.ofNat 0), .int .u8 (Int.ofNat 0), .int .u32 (Int.ofNat 0), .int .u8 (Int.ofNat 0), .slice none 0 (some 0), .slice none 0 (some 0)], .cells true 150 2 [.slice (some (3, off)) len none, .bool ok], .cells true 103 7 [.int .u8 (Int.ofNat o), .int .u8 (Int.ofNat 0), .int .u8 (Int.ofNat 0), .int .u32 (Int.ofNat 0), .int .u8 (Int.ofNat 0), .slice none 0 (some 0), .slice none 0 (some 0)], .cells true 5 N cs] } (AX.normal) ⟨frameOf 77 ([2, 4, 5, 26, 27].zip [.ptr (some (0, 0)), .ptr (some (1, 0)), .ptr (some (2, 0)), .int .u8 (Int.ofNat m), .int .u8 (wrapA IntKind.u8 ((Int.ofNat i).add (Int.ofNat 1)))]), upTo 0, mkL [.cells true 103 7 [.int .u8 (Int.ofNat 0), .int .u8 (Int.ofNat 0), .int .u8 (Int.ofNat 0), .int .u32 (Int.ofNat 0), .int .u8 (Int.ofNat 0), .slice none 0 (some 0), .slice none 0 (some 0)], .cells true 150 2 [.slice (some (3, kept (tkO 4 off len))) (kept (tkL 4 len)) none, .bool (kept (ok && Nat.ble 4 len))], .cells true 103 7 [.int .u8 (Int.ofNat o), .int .u8 (Int.ofNat 0), .int .u8 (Int.ofNat 0), .int .u32 (Int.ofNat 0), .int .u8 (Int.ofNat 0), .slice (some (4, 0)) 1 none, .slice none 0 (some 0)], .cells true 5 N cs, .cells true 27 1 [.int .u32 (Int.ofNat (kept (numN (seg (bytesL cs) off len))))]]⟩ :=
 zrows_run (g := 30) (k := 60) (f := 30) (sl := [2, 4, 5, 26, 27]) (ks := [0, 1, 2, 3, 5]) (rs := []) (ds := []) (cxZ cx_goes) all10n (q := qNs [0,14,0,6,0,0,0,0,6,0,26,0,6,1]) (c := (cnT :: cnT :: cnT :: cnT :: cnT :: cnT :: cnT :: Cnd.same (AV.agg [AV.int IntKind.u32 (Int.ofNat (kept (numN (seg (bytesL cs) off len))))]) (AV.agg [AV.int IntKind.u32 (Int.ofNat (kept (numN (seg (bytesL cs) off len))))]) :: cnF :: [])) (cq := [true, true, true, true, true, true, true, true, true, AV.plainL cs, true, true]) (by kernel_rfl) ⟨h0, h1, h1, h2, h3, h4, h1, rfl, h5, trivial⟩ (holdsB ⟨rfl, rfl, rfl, rfl, rfl, rfl, rfl, rfl, rfl, h1, rfl, rfl, trivial⟩) (by kernel_rfl) (by kernel_rfl) (by kernel_rfl) (by kernel_rfl) (by kernel_rfl)
theorem pB2_e (o off len N : Nat) (cs : List AV) (ok : Bool) (m i a : Nat) (a' : Nat) (d : Nat) (d' : Nat) (xs : List AV) (ds : List AV) (h0 : (iltB (Int.ofNat i) (Int.ofNat m)) = false) (h1 : (AV.plainL cs) = true) (h2 : (AV.plainL xs) = true) (h3 : (AV.plainL ds) = true) :
 CodeOK Try.prog (tyCx tys) 77 4 (roundOf (blockOf Try.f60 1)) { fr := frameOf 77 ([2, 4, 5, 26, 27].zip [.ptr (some (0, 0)), .ptr (some (1, 0)), .ptr (some (2, 0)), .int .u8 (Int.ofNat m), .int .u8 (Int.ofNat i)]), ds := upTo 0, H := mkL [.cells true 103 7 [.int .u8 (Int.ofNat 0), .int .u8 (Int.ofNat 0), .int .u8 (Int.ofNat 0), .int .u32 (Int.ofNat 0), .int .u8 (Int.ofNat 0), .slice none 0 (some 0), .slice none 0 (some 0)], .cells true 150 2 [.slice (some (3, off)) len none, .bool ok], .cells true 103 7 [.int .u8 (Int.ofNat o), .int .u8 (Int.ofNat 0), .int .u8 (Int.ofNat 0), .int .u32 (Int.ofNat 0), .int .u8 (Int.ofNat 0), .slice (some (4, 0)) a none, .slice (some (5, 0)) d none], .cells true 5 N cs, .cells true 27 a' xs, .cells true 36 d' ds] } (AX.exit 1) ⟨frameOf 77 ([2, 4, 5, 26, 27].zip [.ptr (some (0, 0)), .ptr (some (1, 0)), .ptr (some (2, 0)), .int .u8 (Int.ofNat m), .int .u8 (Int.ofNat i)]), upTo 0, mkL [.cells true 103 7 [.int .u8 (Int.ofNat 0), .int .u8 (Int.ofNat 0), .int .u8 (Int.ofNat 0), .int .u32 (Int.ofNat 0), .int .u8 (Int.ofNat 0), .slice none 0 (some 0), .slice none 0 (some 0)], .cells true 150 2 [.slice (some (3, off)) len none, .bool ok], .cells true 103 7 [.int .u8 (Int.ofNat o), .int .u8 (Int.ofNat 0), .int .u8 (Int.ofNat 0), .int .u32 (Int.ofNat 0), .int .u8 (Int.ofNat 0), .slice (some (4, 0)) a none, .slice (some (5, 0)) d none], .cells true 5 N cs, .cells true 27 a' xs, .cells true 36 d' ds]⟩ :=
 zrows_run (g := 30) (k := 60) (f := 30) (sl := [2, 4, 5, 26, 27]) (ks := [0, 1, 2, 3, 4, 5]) (rs := []) (ds := []) (cxZ cx_goes) all10n (q := qNs [1]) (c := (cnF :: [])) (cq := [true, true, true, true, true, true, true, true, true, true, AV.plainL cs, true, AV.plainL xs, true, AV.plainL ds]) (by kernel_rfl) ⟨h0, trivial⟩ (holdsB ⟨rfl, rfl, rfl, rfl, rfl, rfl, rfl, rfl, rfl, rfl, h1, rfl, h2, rfl, h3, trivial⟩) (by kernel_rfl) (by kernel_rfl) (by kernel_rfl) (by kernel_rfl) (by kernel_rfl)
theorem pB2_2 (o off len N : Nat) (cs : List AV) (ok : Bool) (m i a : Nat) (a' : Nat) (d : Nat) (d' : Nat) (xs : List AV) (ds : List AV) (h0 : (iltB (Int.ofNat i) (Int.ofNat m)) = true) (h1 : (AV.plainL cs) = true) (h2 : (u8L cs) = true) (h3 : (cs.length.beq N) = true) (h4 : ((off + len).ble N) = true) (h5 : (appRoom 4 a 1) = true) (h6 : (a'.beq (a * 1)) = true) (h7 : (ieqB (AV.int IntKind.u8 (Int.ofNat o)).intOf (Int.ofNat 2)) = true) (h8 : ((kept (tkO 4 off len) + kept (tkL 4 len)).ble N) = true) (h9 : (AV.plainL (kept (ofBytes (tkB 440 (seg (bytesL cs) (kept (tkO 4 off len)) (kept (tkL 4 len))))))) = true) (h10 : (appRoom 24 d 1) = true) (h11 : (d'.beq (d * 1)) = true) (h12 : (AV.plainL (xs ++ [AV.int IntKind.u32 (Int.ofNat (kept (numN (seg (bytesL cs) off len))))])) = true) (h13 : (AV.plainL (ds ++ [AV.fsl false 440 (kept (ofBytes (tkB 440 (seg (bytesL cs) (kept (tkO 4 off len)) (kept (tkL 4 len))))))])) = true) :
 CodeOK Try.prog (tyCx tys) 77 4 (roundOf (blockOf Try.f60 1)) { fr := frameOf 77 ([2, 4, 5, 26, 27].zip [.ptr (some (0, 0)), .ptr (some (1, 0)), .ptr (some (2, 0)), .int .u8 (Int.ofNat m), .int .u8 (Int.ofNat i)]), ds := upTo 0, H := mkL [.cells true 103 7 [.int .u8 (Int.ofNat 0), .int .u8 (Int.ofNat 0), .int .u8 (Int.ofNat 0), .int .u32 (Int.ofNat 0), .int .u8 (Int.ofNat 0), .slice none 0 (some 0), .slice none 0 (some 0)], .cells true 150 2 [.slice (some (3, off)) len none, .bool ok], .cells true 103 7 [.int .u8 (Int.ofNat o), .int .u8 (Int.ofNat 0), .int .u8 (Int.ofNat 0), .int .u32 (Int.ofNat 0), .int .u8 (Int.ofNat 0), .slice (some (4, 0)) a none, .slice (some (5, 0)) d none], .cells true 5 N cs, .cells true 27 a' xs, .cells true 36 d' ds] } (AX.normal) ⟨frameOf 77 ([2, 4, 5, 26, 27].zip [.ptr (some (0, 0)), .ptr (some (1, 0)), .ptr (some (2, 0)), .int .u8 (Int.ofNat m), .int .u8 (wrapA IntKind.u8 ((Int.ofNat i).add (Int.ofNat 1)))]), upTo 0, mkL [.cells true 103 7 [.int .u8 (Int.ofNat 0), .int .u8 (Int.ofNat 0), .int .u8 (Int.ofNat 0), .int .u32 (Int.ofNat 0), .int .u8 (Int.ofNat 0), .slice none 0 (some 0), .slice none 0 (some 0)], .cells true 150 2 [.slice (some (3, kept (tkO 440 (kept (tkO 4 off len)) (kept (tkL 4 len))))) (kept (tkL 440 (kept (tkL 4 len)))) none, .bool (kept (kept (ok && Nat.ble 4 len) && Nat.ble 440 (kept (tkL 4 len))))], .cells true 103 7 [.int .u8 (Int.ofNat o), .int .u8 (Int.ofNat 0), .int .u8 (Int.ofNat 0), .int .u32 (Int.ofNat 0), .int .u8 (Int.ofNat 0), .slice (some (4, 0)) (a + 1) none, .slice (some (5, 0)) (d + 1) none], .cells true 5 N cs, .cells true 27 (xs ++ [AV.int IntKind.u32 (Int.ofNat (kept (numN (seg (bytesL cs) off len))))]).length (xs ++ [AV.int IntKind.u32 (Int.ofNat (kept (numN (seg (bytesL cs) off len))))]), .cells true 36 (ds ++ [AV.fsl false 440 (kept (ofBytes (tkB 440 (seg (bytesL cs) (kept (tkO 4 off len)) (kept (tkL 4 len))))))]).length (ds ++ [AV.fsl false 440 (kept (ofBytes (tkB 440 (seg (bytesL cs) (kept (tkO 4 off len)) (kept (tkL 4 len))))))])]⟩ :=
 zrows_run (g := 30) (k := 60) (f := 30) (sl := [2, 4, 5, 26, 27]) (ks := [0, 1, 2, 3, 7, 9]) (rs := []) (ds := []) (cxZ cx_goes) all10n (q := qNs [0,14,0,6,0,0,0,0,6,0,7,0,0,11,0,5,0,7,0,6,0,14,0,6,0,0,0,0,5,0,5,0,7,0,0,11,0,5,0,7,0,3]) (c := (cnT :: cnT :: cnT :: cnT :: cnT :: cnT :: cnT :: cnT :: cnT :: Cnd.same (AV.slice (some (4, 0)) a none) (AV.slice (some (4, 0)) a none) :: Cnd.same (AV.slice (some (4, 0)) a none) (AV.slice (some (4, 0)) a none) :: Cnd.same (AV.agg [AV.int IntKind.u32 (Int.ofNat (kept (numN (seg (bytesL cs) off len))))]) (AV.agg [AV.int IntKind.u32 (Int.ofNat (kept (numN (seg (bytesL cs) off len))))]) :: cnT :: cnT :: cnT :: cnT :: cnT :: cnT :: cnT :: cnT :: cnT :: cnT :: Cnd.same (AV.slice (some (5, 0)) d none) (AV.slice (some (5, 0)) d none) :: Cnd.same (AV.slice (some (5, 0)) d none) (AV.slice (some (5, 0)) d none) :: Cnd.same (AV.agg [AV.fsl false 440 (kept (ofBytes (tkB 440 (seg (bytesL cs) (kept (tkO 4 off len)) (kept (tkL 4 len))))))]) (AV.agg [AV.fsl false 440 (kept (ofBytes (tkB 440 (seg (bytesL cs) (kept (tkO 4 off len)) (kept (tkL 4 len))))))]) :: [])) (cq := [true, true, true, true, true, true, true, true, true, true, AV.plainL cs, true, AV.plainL (xs ++ [AV.int IntKind.u32 (Int.ofNat (kept (numN (seg (bytesL cs) off len))))]), true, AV.plainL (ds ++ [AV.fsl false 440 (kept (ofBytes (tkB 440 (seg (bytesL cs) (kept (tkO 4 off len)) (kept (tkL 4 len))))))])]) (by kernel_rfl) ⟨h0, h1, h1, h2, h3, h4, h1, h5, h6, rfl, rfl, rfl, h7, h1, h1, h2, h3, h8, h9, h1, h10, h11, rfl, rfl, rfl, trivial⟩ (holdsB ⟨rfl, rfl, rfl, rfl, rfl, rfl, rfl, rfl, rfl, rfl, h1, rfl, h12, rfl, h13, trivial⟩) (by kernel_rfl) (by kernel_rfl) (by kernel_rfl) (by kernel_rfl) (by kernel_rfl)
theorem pB3_e (o off len N : Nat) (cs : List AV) (ok : Bool) (m i a : Nat) (a' : Nat) (xs : List AV) (h0 : (iltB (Int.ofNat i) (Int.ofNat m)) = false) (h1 : (AV.plainL cs) = true) (h2 : (AV.plainL xs) = true) :
 CodeOK Try.prog (tyCx tys) 77 4 (roundOf (blockOf Try.f60 1)) { fr := frameOf 77 ([2, 4, 5, 26, 27].zip [.ptr (some (0, 0)), .ptr (some (1, 0)), .ptr (some (2, 0)), .int .u8 (Int.ofNat m), .int .u8 (Int.ofNat i)]), ds := upTo 0, H := mkL [.cells true 103 7 [.int .u8 (Int.ofNat 0), .int .u8 (Int.ofNat 0), .int .u8 (Int.ofNat 0), .int .u32 (Int.ofNat 0), .int .u8 (Int.ofNat 0), .slice none 0 (some 0), .slice none 0 (some 0)], .cells true 150 2 [.slice (some (3, off)) len none, .bool ok], .cells true 103 7 [.int .u8 (Int.ofNat o), .int .u8 (Int.ofNat 0), .int .u8 (Int.ofNat 0), .int .u32 (Int.ofNat 0), .int .u8 (Int.ofNat 0), .slice (some (4, 0)) a none, .slice none 0 (some 0)], .cells true 5 N cs, .cells true 27 a' xs] } (AX.exit 1) ⟨frameOf 77 ([2, 4, 5, 26, 27].zip [.ptr (some (0, 0)), .ptr (some (1, 0)), .ptr (some (2, 0)), .int .u8 (Int.ofNat m), .int .u8 (Int.ofNat i)]), upTo 0, mkL [.cells true 103 7 [.int .u8 (Int.ofNat 0), .int .u8 (Int.ofNat 0), .int .u8 (Int.ofNat 0), .int .u32 (Int.ofNat 0), .int .u8 (Int.ofNat 0), .slice none 0 (some 0), .slice none 0 (some 0)], .cells true 150 2 [.slice (some (3, off)) len none, .bool ok], .cells true 103 7 [.int .u8 (Int.ofNat o), .int .u8 (Int.ofNat 0), .int .u8 (Int.ofNat 0), .int .u32 (Int.ofNat 0), .int .u8 (Int.ofNat 0), .slice (some (4, 0)) a none, .slice none 0 (some 0)], .cells true 5 N cs, .cells true 27 a' xs]⟩ :=
 zrows_run (g := 30) (k := 60) (f := 30) (sl := [2, 4, 5, 26, 27]) (ks := [0, 1, 2, 3, 4]) (rs := []) (ds := []) (cxZ cx_goes) all10n (q := qNs [1]) (c := (cnF :: [])) (cq := [true, true, true, true, true, true, true, true, true, AV.plainL cs, true, AV.plainL xs]) (by kernel_rfl) ⟨h0, trivial⟩ (holdsB ⟨rfl, rfl, rfl, rfl, rfl, rfl, rfl, rfl, rfl, h1, rfl, h2, trivial⟩) (by kernel_rfl) (by kernel_rfl) (by kernel_rfl) (by kernel_rfl) (by kernel_rfl)
theorem pB3_3 (o off len N : Nat) (cs : List AV) (ok : Bool) (m i a : Nat) (a' : Nat) (xs : List AV) (h0 : (iltB (Int.ofNat i) (Int.ofNat m)) = true) (h1 : (AV.plainL cs) = true) (h2 : (u8L cs) = true) (h3 : (cs.length.beq N) = true) (h4 : ((off + len).ble N) = true) (h5 : (appRoom 4 a 1) = true) (h6 : (a'.beq (a * 1)) = true) (h7 : (ieqB (AV.int IntKind.u8 (Int.ofNat o)).intOf (Int.ofNat 2)) = false) (h8 : (AV.plainL (xs ++ [AV.int IntKind.u32 (Int.ofNat (kept (numN (seg (bytesL cs) off len))))])) = true) :
 CodeOK Try.prog (tyCx tys) 77 4 (roundOf (blockOf Try.f60 1)) { fr := frameOf 77 ([2, 4, 5, 26, 27].zip [.ptr (some (0, 0)), .ptr (some (1, 0)), .ptr (some (2, 0)), .int .u8 (Int.ofNat m), .int .u8 (Int.ofNat i)]), ds := upTo 0, H := mkL [.cells true 103 7 [.int .u8 (Int.ofNat 0), .int .u8 (Int.ofNat 0), .int .u8 (Int.ofNat 0), .int .u32 (Int.ofNat 0), .int .u8 (Int.ofNat 0), .slice none 0 (some 0), .slice none 0 (some 0)], .cells true 150 2 [.slice (some (3, off)) len none, .bool ok], .cells true 103 7 [.int .u8 (Int.ofNat o), .int .u8 (Int.ofNat 0), .int .u8 (Int.ofNat 0), .int .u32 (Int.ofNat 0), .int .u8 (Int.ofNat 0), .slice (some (4, 0)) a none, .slice none 0 (some 0)], .cells true 5 N cs, .cells true 27 a' xs] } (AX.normal) ⟨frameOf 77 ([2, 4, 5, 26, 27].zip [.ptr (some (0, 0)), .ptr (some (1, 0)), .ptr (some (2, 0)), .int .u8 (Int.ofNat m), .int .u8 (wrapA IntKind.u8 ((Int.ofNat i).add (Int.ofNat 1)))]), upTo 0, mkL [.cells true 103 7 [.int .u8 (Int.ofNat 0), .int .u8 (Int.ofNat 0), .int .u8 (Int.ofNat 0), .int .u32 (Int.ofNat 0), .int .u8 (Int.ofNat 0), .slice none 0 (some 0), .slice none 0 (some 0)], .cells true 150 2 [.slice (some (3, kept (tkO 4 off len))) (kept (tkL 4 len)) none, .bool (kept (ok && Nat.ble 4 len))], .cells true 103 7 [.int .u8 (Int.ofNat o), .int .u8 (Int.ofNat 0), .int .u8 (Int.ofNat 0), .int .u32 (Int.ofNat 0), .int .u8 (Int.ofNat 0), .slice (some (4, 0)) (a + 1) none, .slice none 0 (some 0)], .cells true 5 N cs, .cells true 27 (xs ++ [AV.int IntKind.u32 (Int.ofNat (kept (numN (seg (bytesL cs) off len))))]).length (xs ++ [AV.int IntKind.u32 (Int.ofNat (kept (numN (seg (bytesL cs) off len))))])]⟩ :=
 zrows_run (g := 30) (k := 60) (f := 30) (sl := [2, 4, 5, 26, 27]) (ks := [0, 1, 2, 3, 6]) (rs := []) (ds := []) (cxZ cx_goes) all10n (q := qNs [0,14,0,6,0,0,0,0,6,0,7,0,0,11,0,5,0,7,0,6,1]) (c := (cnT :: cnT :: cnT :: cnT :: cnT :: cnT :: cnT :: cnT :: cnT :: Cnd.same (AV.slice (some (4, 0)) a none) (AV.slice (some (4, 0)) a none) :: Cnd.same (AV.slice (some (4, 0)) a none) (AV.slice (some (4, 0)) a none) :: Cnd.same (AV.agg [AV.int IntKind.u32 (Int.ofNat (kept (numN (seg (bytesL cs) off len))))]) (AV.agg [AV.int IntKind.u32 (Int.ofNat (kept (numN (seg (bytesL cs) off len))))]) :: cnF :: [])) (cq := [true, true, true, true, true, true, true, true, true, AV.plainL cs, true, AV.plainL (xs ++ [AV.int IntKind.u32 (Int.ofNat (kept (numN (seg (bytesL cs) off len))))])]) (by kernel_rfl) ⟨h0, h1, h1, h2, h3, h4, h1, h5, h6, rfl, rfl, rfl, h7, trivial⟩ (holdsB ⟨rfl, rfl, rfl, rfl, rfl, rfl, rfl, rfl, rfl, h1, rfl, h8, trivial⟩) (by kernel_rfl) (by kernel_rfl) (by kernel_rfl) (by kernel_rfl) (by kernel_rfl)
def ppT : List AV × List Blk → Bool := fun x => match x.1 with
 | [_, _, _, .int .u8 (.ofNat m), _] => Nat.beq m 0
 | _ => false
def ppU : List AV × List Blk → Bool := fun x => match x.2 with
 | .cells _ _ _ _ :: .cells _ _ _ _ :: .cells _ _ _ (.int .u8 o :: _) :: _ => ieqB o (Int.ofNat 2)
 | _ => false
def pp0 : List AV × List Blk → Option (List Bool × AX × List AV × List Blk) := fun x => match x with
 | ([.ptr (some (0, 0)), .ptr (some (1, 0)), .ptr (some (2, 0)), .int .u8 (.ofNat m), .int .u8 (.ofNat i)], [.cells true 103 7 [.int .u8 (.ofNat 0), .int .u8 (.ofNat 0), .int .u8 (.ofNat 0), .int .u32 (.ofNat 0), .int .u8 (.ofNat 0), .slice none 0 (some 0), .slice none 0 (some 0)], .cells true 150 2 [.slice (some (3, off)) len none, .bool ok], .cells true 103 7 [.int .u8 (.ofNat o), .int .u8 (.ofNat 0), .int .u8 (.ofNat 0), .int .u32 (.ofNat 0), .int .u8 (.ofNat 0), .slice none 0 (some 0), .slice none 0 (some 0)], .cells true 5 N cs]) => some ([Nat.beq m 0, Nat.beq i 0, AV.plainL cs], .normal, [.ptr (some (0, 0)), .ptr (some (1, 0)), .ptr (some (2, 0)), .int .u8 (Int.ofNat 0), .int .u8 (Int.ofNat 0)], [.cells true 103 7 [.int .u8 (Int.ofNat 0), .int .u8 (Int.ofNat 0), .int .u8 (Int.ofNat 0), .int .u32 (Int.ofNat 0), .int .u8 (Int.ofNat 0), .slice none 0 (some 0), .slice none 0 (some 0)], .cells true 150 2 [.slice (some (3, off)) len none, .bool ok], .cells true 103 7 [.int .u8 (Int.ofNat o), .int .u8 (Int.ofNat 0), .int .u8 (Int.ofNat 0), .int .u32 (Int.ofNat 0), .int .u8 (Int.ofNat 0), .slice none 0 (some 0), .slice none 0 (some 0)], .cells true 5 N cs])
 | _ => none
def pp2 : List AV × List Blk → Option (List Bool × AX × List AV × List Blk) := fun x => match x with
 | ([.ptr (some (0, 0)), .ptr (some (1, 0)), .ptr (some (2, 0)), .int .u8 (.ofNat m), .int .u8 (.ofNat i)], [.cells true 103 7 [.int .u8 (.ofNat 0), .int .u8 (.ofNat 0), .int .u8 (.ofNat 0), .int .u32 (.ofNat 0), .int .u8 (.ofNat 0), .slice none 0 (some 0), .slice none 0 (some 0)], .cells true 150 2 [.slice (some (3, off)) len none, .bool ok], .cells true 103 7 [.int .u8 (.ofNat o), .int .u8 (.ofNat 0), .int .u8 (.ofNat 0), .int .u32 (.ofNat 0), .int .u8 (.ofNat 0), .slice none 0 (some 0), .slice none 0 (some 0)], .cells true 5 N cs]) => some ([u8L cs, Nat.beq cs.length N, Nat.beq (off + len) N, Nat.beq i 0, Nat.ble m 255, Nat.ble 1 m, ieqB (Int.ofNat o) (Int.ofNat 2)], .normal, [.ptr (some (0, 0)), .ptr (some (1, 0)), .ptr (some (2, 0)), .int .u8 (Int.ofNat m), .int .u8 (Int.ofNat m)], [.cells true 103 7 [.int .u8 (Int.ofNat 0), .int .u8 (Int.ofNat 0), .int .u8 (Int.ofNat 0), .int .u32 (Int.ofNat 0), .int .u8 (Int.ofNat 0), .slice none 0 (some 0), .slice none 0 (some 0)], .cells true 150 2 [.slice (some (3, kept (N - (pR (Int.ofNat o) ((bytesL cs).drop off) ok m).length))) (kept (pR (Int.ofNat o) ((bytesL cs).drop off) ok m).length) none, .bool (kept (pK (Int.ofNat o) ((bytesL cs).drop off) ok m))], .cells true 103 7 [.int .u8 (Int.ofNat o), .int .u8 (Int.ofNat 0), .int .u8 (Int.ofNat 0), .int .u32 (Int.ofNat 0), .int .u8 (Int.ofNat 0), .slice (some (4, 0)) m none, .slice (some (5, 0)) m none], .cells true 5 N cs, .cells true 27 m (kept (encU .u32 (pA (Int.ofNat o) ((bytesL cs).drop off) ok m))), .cells true 36 m (kept (enD (pD (Int.ofNat o) ((bytesL cs).drop off) ok m)))])
 | _ => none
def pp3 : List AV × List Blk → Option (List Bool × AX × List AV × List Blk) := fun x => match x with
 | ([.ptr (some (0, 0)), .ptr (some (1, 0)), .ptr (some (2, 0)), .int .u8 (.ofNat m), .int .u8 (.ofNat i)], [.cells true 103 7 [.int .u8 (.ofNat 0), .int .u8 (.ofNat 0), .int .u8 (.ofNat 0), .int .u32 (.ofNat 0), .int .u8 (.ofNat 0), .slice none 0 (some 0), .slice none 0 (some 0)], .cells true 150 2 [.slice (some (3, off)) len none, .bool ok], .cells true 103 7 [.int .u8 (.ofNat o), .int .u8 (.ofNat 0), .int .u8 (.ofNat 0), .int .u32 (.ofNat 0), .int .u8 (.ofNat 0), .slice none 0 (some 0), .slice none 0 (some 0)], .cells true 5 N cs]) => some ([u8L cs, Nat.beq cs.length N, Nat.beq (off + len) N, Nat.beq i 0, Nat.ble m 255, Nat.ble 1 m, !ieqB (Int.ofNat o) (Int.ofNat 2)], .normal, [.ptr (some (0, 0)), .ptr (some (1, 0)), .ptr (some (2, 0)), .int .u8 (Int.ofNat m), .int .u8 (Int.ofNat m)], [.cells true 103 7 [.int .u8 (Int.ofNat 0), .int .u8 (Int.ofNat 0), .int .u8 (Int.ofNat 0), .int .u32 (Int.ofNat 0), .int .u8 (Int.ofNat 0), .slice none 0 (some 0), .slice none 0 (some 0)], .cells true 150 2 [.slice (some (3, kept (N - (pR (Int.ofNat o) ((bytesL cs).drop off) ok m).length))) (kept (pR (Int.ofNat o) ((bytesL cs).drop off) ok m).length) none, .bool (kept (pK (Int.ofNat o) ((bytesL cs).drop off) ok m))], .cells true 103 7 [.int .u8 (Int.ofNat o), .int .u8 (Int.ofNat 0), .int .u8 (Int.ofNat 0), .int .u32 (Int.ofNat 0), .int .u8 (Int.ofNat 0), .slice (some (4, 0)) m none, .slice none 0 (some 0)], .cells true 5 N cs, .cells true 27 m (kept (encU .u32 (pA (Int.ofNat o) ((bytesL cs).drop off) ok m)))])
 | _ => none
def ppL : ZLT := ⟨77, blockOf Try.f60 1, [2, 4, 5, 26, 27], 0, [], .node ppT (.leaf pp0) (.node ppU (.leaf pp2) (.leaf pp3))⟩
def pp2E (o off len : Nat) (w : List UInt8) (ok : Bool) (m : Nat) (i : Nat) : ZSt := match i with
 | 0 => ([.ptr (some (0, 0)), .ptr (some (1, 0)), .ptr (some (2, 0)), .int .u8 (Int.ofNat m), .int .u8 (Int.ofNat 0)], [.cells true 103 7 [.int .u8 (Int.ofNat 0), .int .u8 (Int.ofNat 0), .int .u8 (Int.ofNat 0), .int .u32 (Int.ofNat 0), .int .u8 (Int.ofNat 0), .slice none 0 (some 0), .slice none 0 (some 0)], .cells true 150 2 [.slice (some (3, off)) len none, .bool ok], .cells true 103 7 [.int .u8 (Int.ofNat o), .int .u8 (Int.ofNat 0), .int .u8 (Int.ofNat 0), .int .u32 (Int.ofNat 0), .int .u8 (Int.ofNat 0), .slice none 0 (some 0), .slice none 0 (some 0)], .cells true 5 w.length (ofBytes w)])
 | j + 1 => ([.ptr (some (0, 0)), .ptr (some (1, 0)), .ptr (some (2, 0)), .int .u8 (Int.ofNat m), .int .u8 (Int.ofNat (j + 1))], [.cells true 103 7 [.int .u8 (Int.ofNat 0), .int .u8 (Int.ofNat 0), .int .u8 (Int.ofNat 0), .int .u32 (Int.ofNat 0), .int .u8 (Int.ofNat 0), .slice none 0 (some 0), .slice none 0 (some 0)], .cells true 150 2 [.slice (some (3, (w.length - (pR (Int.ofNat o) (w.drop off) ok (j + 1)).length))) (pR (Int.ofNat o) (w.drop off) ok (j + 1)).length none, .bool (pK (Int.ofNat o) (w.drop off) ok (j + 1))], .cells true 103 7 [.int .u8 (Int.ofNat o), .int .u8 (Int.ofNat 0), .int .u8 (Int.ofNat 0), .int .u32 (Int.ofNat 0), .int .u8 (Int.ofNat 0), .slice (some (4, 0)) (j + 1) none, .slice (some (5, 0)) (j + 1) none], .cells true 5 w.length (ofBytes w), .cells true 27 (j + 1) (encU .u32 (pA (Int.ofNat o) (w.drop off) ok (j + 1))), .cells true 36 (j + 1) (enD (pD (Int.ofNat o) (w.drop off) ok (j + 1)))])
theorem pp2E_some (o off len : Nat) (w : List UInt8) (ok : Bool) (m : Nat) (i : Nat) (h : i ≠ 0) : pp2E o off len w ok m i = ([.ptr (some (0, 0)), .ptr (some (1, 0)), .ptr (some (2, 0)), .int .u8 (Int.ofNat m), .int .u8 (Int.ofNat i)], [.cells true 103 7 [.int .u8 (Int.ofNat 0), .int .u8 (Int.ofNat 0), .int .u8 (Int.ofNat 0), .int .u32 (Int.ofNat 0), .int .u8 (Int.ofNat 0), .slice none 0 (some 0), .slice none 0 (some 0)], .cells true 150 2 [.slice (some (3, (w.length - (pR (Int.ofNat o) (w.drop off) ok i).length))) (pR (Int.ofNat o) (w.drop off) ok i).length none, .bool (pK (Int.ofNat o) (w.drop off) ok i)], .cells true 103 7 [.int .u8 (Int.ofNat o), .int .u8 (Int.ofNat 0), .int .u8 (Int.ofNat 0), .int .u32 (Int.ofNat 0), .int .u8 (Int.ofNat 0), .slice (some (4, 0)) i none, .slice (some (5, 0)) i none], .cells true 5 w.length (ofBytes w), .cells true 27 i (encU .u32 (pA (Int.ofNat o) (w.drop off) ok i)), .cells true 36 i (enD (pD (Int.ofNat o) (w.drop off) ok i))]) := by
 cases i with
 | zero => exact absurd rfl h
 | succ j => rfl
def pp3E (o off len : Nat) (w : List UInt8) (ok : Bool) (m : Nat) (i : Nat) : ZSt := match i with
 | 0 => ([.ptr (some (0, 0)), .ptr (some (1, 0)), .ptr (some (2, 0)), .int .u8 (Int.ofNat m), .int .u8 (Int.ofNat 0)], [.cells true 103 7 [.int .u8 (Int.ofNat 0), .int .u8 (Int.ofNat 0), .int .u8 (Int.ofNat 0), .int .u32 (Int.ofNat 0), .int .u8 (Int.ofNat 0), .slice none 0 (some 0), .slice none 0 (some 0)], .cells true 150 2 [.slice (some (3, off)) len none, .bool ok], .cells true 103 7 [.int .u8 (Int.ofNat o), .int .u8 (Int.ofNat 0), .int .u8 (Int.ofNat 0), .int .u32 (Int.ofNat 0), .int .u8 (Int.ofNat 0), .slice none 0 (some 0), .slice none 0 (some 0)], .cells true 5 w.length (ofBytes w)])
 | j + 1 => ([.ptr (some (0, 0)), .ptr (some (1, 0)), .ptr (some (2, 0)), .int .u8 (Int.ofNat m), .int .u8 (Int.ofNat (j + 1))], [.cells true 103 7 [.int .u8 (Int.ofNat 0), .int .u8 (Int.ofNat 0), .int .u8 (Int.ofNat 0), .int .u32 (Int.ofNat 0), .int .u8 (Int.ofNat 0), .slice none 0 (some 0), .slice none 0 (some 0)], .cells true 150 2 [.slice (some (3, (w.length - (pR (Int.ofNat o) (w.drop off) ok (j + 1)).length))) (pR (Int.ofNat o) (w.drop off) ok (j + 1)).length none, .bool (pK (Int.ofNat o) (w.drop off) ok (j + 1))], .cells true 103 7 [.int .u8 (Int.ofNat o), .int .u8 (Int.ofNat 0), .int .u8 (Int.ofNat 0), .int .u32 (Int.ofNat 0), .int .u8 (Int.ofNat 0), .slice (some (4, 0)) (j + 1) none, .slice none 0 (some 0)], .cells true 5 w.length (ofBytes w), .cells true 27 (j + 1) (encU .u32 (pA (Int.ofNat o) (w.drop off) ok (j + 1)))])
theorem pp3E_some (o off len : Nat) (w : List UInt8) (ok : Bool) (m : Nat) (i : Nat) (h : i ≠ 0) : pp3E o off len w ok m i = ([.ptr (some (0, 0)), .ptr (some (1, 0)), .ptr (some (2, 0)), .int .u8 (Int.ofNat m), .int .u8 (Int.ofNat i)], [.cells true 103 7 [.int .u8 (Int.ofNat 0), .int .u8 (Int.ofNat 0), .int .u8 (Int.ofNat 0), .int .u32 (Int.ofNat 0), .int .u8 (Int.ofNat 0), .slice none 0 (some 0), .slice none 0 (some 0)], .cells true 150 2 [.slice (some (3, (w.length - (pR (Int.ofNat o) (w.drop off) ok i).length))) (pR (Int.ofNat o) (w.drop off) ok i).length none, .bool (pK (Int.ofNat o) (w.drop off) ok i)], .cells true 103 7 [.int .u8 (Int.ofNat o), .int .u8 (Int.ofNat 0), .int .u8 (Int.ofNat 0), .int .u32 (Int.ofNat 0), .int .u8 (Int.ofNat 0), .slice (some (4, 0)) i none, .slice none 0 (some 0)], .cells true 5 w.length (ofBytes w), .cells true 27 i (encU .u32 (pA (Int.ofNat o) (w.drop off) ok i))]) := by
 cases i with
 | zero => exact absurd rfl h
 | succ j => rfl
set_option maxHeartbeats 4000000 in
theorem ppL_ok : ppL.OK Try.prog (tyCx tys) (flOf tys) 1 := by
 refine ⟨?_, ?_, ?_⟩
 · intro vs bs conds X vs' bs' h hc hin
   have h : pp0 (vs, bs) = some (conds, X, vs', bs') := h
   unfold pp0 at h
   split at h
   · rename_i m i off len ok o N cs he
     injection he with he1 he2
     subst he1; subst he2
     injection h with h; injection h with e1 h; injection h with e2 h; injection h with e3 e4
     subst e1; subst e2; subst e3; subst e4
     simp only [allTrue_cons] at hc
     obtain ⟨c1, c2, p1, _⟩ := hc
     have c1 := eq_of_beq' c1
     have c2 := eq_of_beq' c2
     subst c1; subst c2
     have k0 : iltB (Int.ofNat 0) (Int.ofNat 0) = false := rfl
     have key := CodeOK.loop (P := Try.prog) (cx := tyCx tys) (nn := 77) (n0 := 4) (b := roundOf (blockOf Try.f60 1)) (fun _ : Unit => (ppL.at pp0).st ([.ptr (some (0, 0)), .ptr (some (1, 0)), .ptr (some (2, 0)), .int .u8 (Int.ofNat 0), .int .u8 (Int.ofNat 0)], [.cells true 103 7 [.int .u8 (Int.ofNat 0), .int .u8 (Int.ofNat 0), .int .u8 (Int.ofNat 0), .int .u32 (Int.ofNat 0), .int .u8 (Int.ofNat 0), .slice none 0 (some 0), .slice none 0 (some 0)], .cells true 150 2 [.slice (some (3, off)) len none, .bool ok], .cells true 103 7 [.int .u8 (Int.ofNat o), .int .u8 (Int.ofNat 0), .int .u8 (Int.ofNat 0), .int .u32 (Int.ofNat 0), .int .u8 (Int.ofNat 0), .slice none 0 (some 0), .slice none 0 (some 0)], .cells true 5 N cs]))
      (fun _ => (.exit 1, (ppL.at pp0).st ([.ptr (some (0, 0)), .ptr (some (1, 0)), .ptr (some (2, 0)), .int .u8 (Int.ofNat 0), .int .u8 (Int.ofNat 0)], [.cells true 103 7 [.int .u8 (Int.ofNat 0), .int .u8 (Int.ofNat 0), .int .u8 (Int.ofNat 0), .int .u32 (Int.ofNat 0), .int .u8 (Int.ofNat 0), .slice none 0 (some 0), .slice none 0 (some 0)], .cells true 150 2 [.slice (some (3, off)) len none, .bool ok], .cells true 103 7 [.int .u8 (Int.ofNat o), .int .u8 (Int.ofNat 0), .int .u8 (Int.ofNat 0), .int .u32 (Int.ofNat 0), .int .u8 (Int.ofNat 0), .slice none 0 (some 0), .slice none 0 (some 0)], .cells true 5 N cs]))) (fun _ => 0) (fun _ => .inr ⟨pA_e o off len N cs ok 0 0 k0 p1, by simp⟩) ()
     exact CodeOK.block 1 key
   · cases h
 · intro vs bs conds X vs' bs' h hc hin
   have h : pp2 (vs, bs) = some (conds, X, vs', bs') := h
   unfold pp2 at h
   split at h
   · rename_i m i off len ok o N cs he
     injection he with he1 he2
     subst he1; subst he2
     injection h with h; injection h with e1 h; injection h with e2 h; injection h with e3 e4
     subst e1; subst e2; subst e3; subst e4
     simp only [allTrue_cons] at hc
     obtain ⟨c1, c2, c3, c4, c5, c6, c7, _⟩ := hc
     obtain ⟨w, rfl⟩ := u8L_iff.1 c1
     have c2 := eq_of_beq' c2
     have c3 := eq_of_beq' c3
     have c4 := eq_of_beq' c4
     rw [ofBytes_length] at c2
     subst c2; subst c4
     have c5 := Nat.le_of_ble_eq_true c5
     have c6 := Nat.le_of_ble_eq_true c6
     have o2 : Int.ofNat o = 2 := by rw [ieqB_eq, beq_iff_eq] at c7; exact c7
     have k2 : ieqB (Int.ofNat o) (Int.ofNat 2) = true := c7
     simp only [kept_eq, bytesL_ofBytes]
     have key := CodeOK.loop (P := Try.prog) (cx := tyCx tys) (nn := 77) (n0 := 4) (b := roundOf (blockOf Try.f60 1)) (fun q : {i : Nat // i ≤ m} => (ppL.at pp2).st (pp2E o off len w ok m q.1))
      (fun q => (.exit 1, (ppL.at pp2).st (pp2E o off len w ok m (m)))) (fun q => m - q.1) (fun q => by
      obtain ⟨i, hi⟩ := q
      simp only
      by_cases hlt : i < m
      · refine .inl ⟨⟨i + 1, hlt⟩, ?_, trivial, by simp only; omega⟩
        have k0 : iltB (Int.ofNat i) (Int.ofNat (m)) = true := by rw [iltB_eq]; exact decide_eq_true (by show (i : Int) < ((m : Nat) : Int); omega)
        have hw : wrapA .u8 ((Int.ofNat i).add (Int.ofNat 1)) = Int.ofNat (i + 1) := wrapA_nat .u8 (i + 1) (by show _ < 256; omega)
        have z0 : (Int.ofNat i).toNat = i := rfl
        have hsuf : pR (Int.ofNat o) (w.drop off) ok i <:+ w := (pst_suf _ _ _ _).trans (List.drop_suffix _ _)
        cases i with
        | zero =>
         have hl : len = (pR (Int.ofNat o) (w.drop off) ok 0).length := by show len = (w.drop off).length; rw [List.length_drop]; omega
         have hs : seg w off len = (pR (Int.ofNat o) (w.drop off) ok 0) := by show _ = w.drop off; unfold seg; rw [List.take_of_length_le (by rw [List.length_drop]; omega)]
         have ho : off + len = w.length := c3
         have t4 := tk_suf 4 hsuf hl ho
         have s4 : rsB 4 (pR (Int.ofNat o) (w.drop off) ok 0) <:+ w := (rsB_suf 4 _).trans hsuf
         have n4 := s4.length_le
         have nr := hsuf.length_le
         have hs4 := seg_suf s4
         have t440 := tk_suf 440 s4 rfl (off := w.length - (rsB 4 (pR (Int.ofNat o) (w.drop off) ok 0)).length) (by omega)
         have tl : (tkB 440 (rsB 4 (pR (Int.ofNat o) (w.drop off) ok 0))).length = 440 := tkB_len _ _
         have pl : AV.plainL (ofBytes (tkB 440 (rsB 4 (pR (Int.ofNat o) (w.drop off) ok 0)))) = true := ofBytes_plainL _
         have ea : encU .u32 (pA (Int.ofNat o) (w.drop off) ok 0) ++ [AV.int .u32 (Int.ofNat (numN (pR (Int.ofNat o) (w.drop off) ok 0)))] = encU .u32 (pA (Int.ofNat o) (w.drop off) ok (0 + 1)) := by
          have : pA (Int.ofNat o) (w.drop off) ok (0 + 1) = pA (Int.ofNat o) (w.drop off) ok 0 ++ [nuB (pR (Int.ofNat o) (w.drop off) ok 0)] := by unfold pA pR; simp only [pst]; split <;> rfl
          rw [this, ← encU_snoc]; rfl
         have ed : enD (pD (Int.ofNat o) (w.drop off) ok 0) ++ [AV.fsl false 440 (ofBytes (tkB 440 (rsB 4 (pR (Int.ofNat o) (w.drop off) ok 0))))] = enD (pD (Int.ofNat o) (w.drop off) ok (0 + 1)) := by
          have : pD (Int.ofNat o) (w.drop off) ok (0 + 1) = pD (Int.ofNat o) (w.drop off) ok 0 ++ [tkB 440 (rsB 4 (pR (Int.ofNat o) (w.drop off) ok 0))] := by unfold pD pR; simp only [pst, if_pos o2]
          rw [this, enD_snoc _ _ tl]
         have er : rsB 440 (rsB 4 (pR (Int.ofNat o) (w.drop off) ok 0)) = pR (Int.ofNat o) (w.drop off) ok (0 + 1) := by unfold pR; simp only [pst, if_pos o2]
         have ek : ((ok && Nat.ble 4 len) && Nat.ble 440 (rsB 4 (pR (Int.ofNat o) (w.drop off) ok 0)).length) = pK (Int.ofNat o) (w.drop off) ok (0 + 1) := by rw [hl]; unfold pK pR; simp only [pst, if_pos o2]
         have dl : (enD (pD (Int.ofNat o) (w.drop off) ok (0 + 1))).length = 0 + 1 := by rw [enD_length, show Int.ofNat o = 2 from o2, pD_len]
         have al : (encU .u32 (pA (Int.ofNat o) (w.drop off) ok (0 + 1))).length = 0 + 1 := by rw [encU_length, pA_len]
         have ea : [AV.int .u32 (Int.ofNat (numN (pR (Int.ofNat o) (w.drop off) ok 0)))] = encU .u32 (pA (Int.ofNat o) (w.drop off) ok (0 + 1)) := ea
         have ed : [AV.fsl false 440 (ofBytes (tkB 440 (rsB 4 (pR (Int.ofNat o) (w.drop off) ok 0))))] = enD (pD (Int.ofNat o) (w.drop off) ok (0 + 1)) := ed
         have key := pA_2 o off len w.length (ofBytes w) ok m 0
         iterate 9
          replace key := key (by
           (try simp only [kept_eq, bytesL_ofBytes, AV.intOf, k0, k2, hw, Nat.zero_add, Nat.mul_one, hs, t4.1, t4.2, hs4, ea, al, t440.1, t440.2, pl, ed, dl])
           first
            | done
            | with_reducible rfl
            | with_reducible exact ofBytes_plainL _
            | with_reducible exact u8L_ofBytes _
            | with_reducible exact encU_plainL _ _
            | with_reducible exact enD_plainL _
            | with_reducible exact room4 (by omega)
            | with_reducible exact room24 (by omega)
            | (rw [ofBytes_length]; exact Nat.beq_refl _)
            | (rw [nble]; exact decide_eq_true (by omega))
            | (simp [nbeq, nble]; done)
            | (simp [nbeq, nble, AV.plain, AV.plainL, ofBytes_plainL]; done))
         simp only [kept_eq, bytesL_ofBytes, AV.intOf, k0, k2, hw, Nat.zero_add, Nat.mul_one, hs, t4.1, t4.2, hs4, ea, al, t440.1, t440.2, pl, ed, dl, er, ek] at key
         exact key
        | succ j =>
         have hl : (pR (Int.ofNat o) (w.drop off) ok (j + 1)).length = (pR (Int.ofNat o) (w.drop off) ok (j + 1)).length := rfl
         have hs : seg w (w.length - (pR (Int.ofNat o) (w.drop off) ok (j + 1)).length) (pR (Int.ofNat o) (w.drop off) ok (j + 1)).length = (pR (Int.ofNat o) (w.drop off) ok (j + 1)) := seg_suf hsuf
         have ho : (w.length - (pR (Int.ofNat o) (w.drop off) ok (j + 1)).length) + (pR (Int.ofNat o) (w.drop off) ok (j + 1)).length = w.length := by have := hsuf.length_le; omega
         have t4 := tk_suf 4 hsuf hl ho
         have s4 : rsB 4 (pR (Int.ofNat o) (w.drop off) ok (j + 1)) <:+ w := (rsB_suf 4 _).trans hsuf
         have n4 := s4.length_le
         have nr := hsuf.length_le
         have hs4 := seg_suf s4
         have t440 := tk_suf 440 s4 rfl (off := w.length - (rsB 4 (pR (Int.ofNat o) (w.drop off) ok (j + 1))).length) (by omega)
         have tl : (tkB 440 (rsB 4 (pR (Int.ofNat o) (w.drop off) ok (j + 1)))).length = 440 := tkB_len _ _
         have pl : AV.plainL (ofBytes (tkB 440 (rsB 4 (pR (Int.ofNat o) (w.drop off) ok (j + 1))))) = true := ofBytes_plainL _
         have ea : encU .u32 (pA (Int.ofNat o) (w.drop off) ok (j + 1)) ++ [AV.int .u32 (Int.ofNat (numN (pR (Int.ofNat o) (w.drop off) ok (j + 1))))] = encU .u32 (pA (Int.ofNat o) (w.drop off) ok ((j + 1) + 1)) := by
          have : pA (Int.ofNat o) (w.drop off) ok ((j + 1) + 1) = pA (Int.ofNat o) (w.drop off) ok (j + 1) ++ [nuB (pR (Int.ofNat o) (w.drop off) ok (j + 1))] := by unfold pA pR; simp only [pst]; split <;> rfl
          rw [this, ← encU_snoc]; rfl
         have ed : enD (pD (Int.ofNat o) (w.drop off) ok (j + 1)) ++ [AV.fsl false 440 (ofBytes (tkB 440 (rsB 4 (pR (Int.ofNat o) (w.drop off) ok (j + 1)))))] = enD (pD (Int.ofNat o) (w.drop off) ok ((j + 1) + 1)) := by
          have : pD (Int.ofNat o) (w.drop off) ok ((j + 1) + 1) = pD (Int.ofNat o) (w.drop off) ok (j + 1) ++ [tkB 440 (rsB 4 (pR (Int.ofNat o) (w.drop off) ok (j + 1)))] := by unfold pD pR; simp only [pst, if_pos o2]
          rw [this, enD_snoc _ _ tl]
         have er : rsB 440 (rsB 4 (pR (Int.ofNat o) (w.drop off) ok (j + 1))) = pR (Int.ofNat o) (w.drop off) ok ((j + 1) + 1) := by unfold pR; simp only [pst, if_pos o2]
         have ek : (((pK (Int.ofNat o) (w.drop off) ok (j + 1)) && Nat.ble 4 (pR (Int.ofNat o) (w.drop off) ok (j + 1)).length) && Nat.ble 440 (rsB 4 (pR (Int.ofNat o) (w.drop off) ok (j + 1))).length) = pK (Int.ofNat o) (w.drop off) ok ((j + 1) + 1) := by unfold pK pR; simp only [pst, if_pos o2]
         have dl : (enD (pD (Int.ofNat o) (w.drop off) ok ((j + 1) + 1))).length = (j + 1) + 1 := by rw [enD_length, show Int.ofNat o = 2 from o2, pD_len]
         have al : (encU .u32 (pA (Int.ofNat o) (w.drop off) ok ((j + 1) + 1))).length = (j + 1) + 1 := by rw [encU_length, pA_len]
         have key := pB2_2 o (w.length - (pR (Int.ofNat o) (w.drop off) ok (j + 1)).length) (pR (Int.ofNat o) (w.drop off) ok (j + 1)).length w.length (ofBytes w) (pK (Int.ofNat o) (w.drop off) ok (j + 1)) m (j + 1) (j + 1) (j + 1) (j + 1) (j + 1) (encU .u32 (pA (Int.ofNat o) (w.drop off) ok (j + 1))) (enD (pD (Int.ofNat o) (w.drop off) ok (j + 1)))
         iterate 14
          replace key := key (by
           (try simp only [kept_eq, bytesL_ofBytes, AV.intOf, k0, k2, hw, Nat.zero_add, Nat.mul_one, hs, t4.1, t4.2, hs4, ea, al, t440.1, t440.2, pl, ed, dl])
           first
            | done
            | with_reducible rfl
            | with_reducible exact ofBytes_plainL _
            | with_reducible exact u8L_ofBytes _
            | with_reducible exact encU_plainL _ _
            | with_reducible exact enD_plainL _
            | with_reducible exact room4 (by omega)
            | with_reducible exact room24 (by omega)
            | (rw [ofBytes_length]; exact Nat.beq_refl _)
            | (rw [nble]; exact decide_eq_true (by omega))
            | (simp [nbeq, nble]; done)
            | (simp [nbeq, nble, AV.plain, AV.plainL, ofBytes_plainL]; done))
         simp only [kept_eq, bytesL_ofBytes, AV.intOf, k0, k2, hw, Nat.zero_add, Nat.mul_one, hs, t4.1, t4.2, hs4, ea, al, t440.1, t440.2, pl, ed, dl, er, ek] at key
         exact key
      · have hi : m = i := by omega
        subst hi
        refine .inr ⟨?_, by simp⟩
        have k0 : iltB (Int.ofNat (m)) (Int.ofNat (m)) = false := by rw [iltB_eq]; exact decide_eq_false (by show ¬ ((m : Nat) : Int) < ((m : Nat) : Int); omega)
        rw [pp2E_some o off len w ok m _ (by omega)]
        exact pB2_e o (w.length - (pR (Int.ofNat o) (w.drop off) ok m).length) (pR (Int.ofNat o) (w.drop off) ok m).length w.length (ofBytes w) (pK (Int.ofNat o) (w.drop off) ok m) m m m m m m (encU .u32 (pA (Int.ofNat o) (w.drop off) ok m)) (enD (pD (Int.ofNat o) (w.drop off) ok m)) k0 (ofBytes_plainL _) (encU_plainL _ _) (enD_plainL _)) ⟨0, Nat.zero_le _⟩
     rw [pp2E_some o off len w ok m m (by omega)] at key
     exact CodeOK.block 1 key
   · cases h
 · intro vs bs conds X vs' bs' h hc hin
   have h : pp3 (vs, bs) = some (conds, X, vs', bs') := h
   unfold pp3 at h
   split at h
   · rename_i m i off len ok o N cs he
     injection he with he1 he2
     subst he1; subst he2
     injection h with h; injection h with e1 h; injection h with e2 h; injection h with e3 e4
     subst e1; subst e2; subst e3; subst e4
     simp only [allTrue_cons] at hc
     obtain ⟨c1, c2, c3, c4, c5, c6, c7, _⟩ := hc
     obtain ⟨w, rfl⟩ := u8L_iff.1 c1
     have c2 := eq_of_beq' c2
     have c3 := eq_of_beq' c3
     have c4 := eq_of_beq' c4
     rw [ofBytes_length] at c2
     subst c2; subst c4
     have c5 := Nat.le_of_ble_eq_true c5
     have c6 := Nat.le_of_ble_eq_true c6
     have o2 : Int.ofNat o ≠ 2 := by rw [Bool.not_eq_true', ieqB_eq, beq_eq_false_iff_ne] at c7; exact c7
     have k2 : ieqB (Int.ofNat o) (Int.ofNat 2) = false := by rw [ieqB_eq]; exact beq_eq_false_iff_ne.2 o2
     simp only [kept_eq, bytesL_ofBytes]
     have key := CodeOK.loop (P := Try.prog) (cx := tyCx tys) (nn := 77) (n0 := 4) (b := roundOf (blockOf Try.f60 1)) (fun q : {i : Nat // i ≤ m} => (ppL.at pp3).st (pp3E o off len w ok m q.1))
      (fun q => (.exit 1, (ppL.at pp3).st (pp3E o off len w ok m (m)))) (fun q => m - q.1) (fun q => by
      obtain ⟨i, hi⟩ := q
      simp only
      by_cases hlt : i < m
      · refine .inl ⟨⟨i + 1, hlt⟩, ?_, trivial, by simp only; omega⟩
        have k0 : iltB (Int.ofNat i) (Int.ofNat (m)) = true := by rw [iltB_eq]; exact decide_eq_true (by show (i : Int) < ((m : Nat) : Int); omega)
        have hw : wrapA .u8 ((Int.ofNat i).add (Int.ofNat 1)) = Int.ofNat (i + 1) := wrapA_nat .u8 (i + 1) (by show _ < 256; omega)
        have z0 : (Int.ofNat i).toNat = i := rfl
        have hsuf : pR (Int.ofNat o) (w.drop off) ok i <:+ w := (pst_suf _ _ _ _).trans (List.drop_suffix _ _)
        cases i with
        | zero =>
         have hl : len = (pR (Int.ofNat o) (w.drop off) ok 0).length := by show len = (w.drop off).length; rw [List.length_drop]; omega
         have hs : seg w off len = (pR (Int.ofNat o) (w.drop off) ok 0) := by show _ = w.drop off; unfold seg; rw [List.take_of_length_le (by rw [List.length_drop]; omega)]
         have ho : off + len = w.length := c3
         have t4 := tk_suf 4 hsuf hl ho
         have s4 : rsB 4 (pR (Int.ofNat o) (w.drop off) ok 0) <:+ w := (rsB_suf 4 _).trans hsuf
         have n4 := s4.length_le
         have nr := hsuf.length_le
         have hs4 := seg_suf s4
         have ea : encU .u32 (pA (Int.ofNat o) (w.drop off) ok 0) ++ [AV.int .u32 (Int.ofNat (numN (pR (Int.ofNat o) (w.drop off) ok 0)))] = encU .u32 (pA (Int.ofNat o) (w.drop off) ok (0 + 1)) := by
          have : pA (Int.ofNat o) (w.drop off) ok (0 + 1) = pA (Int.ofNat o) (w.drop off) ok 0 ++ [nuB (pR (Int.ofNat o) (w.drop off) ok 0)] := by unfold pA pR; simp only [pst]; split <;> rfl
          rw [this, ← encU_snoc]; rfl
         have er : rsB 4 (pR (Int.ofNat o) (w.drop off) ok 0) = pR (Int.ofNat o) (w.drop off) ok (0 + 1) := by unfold pR; simp only [pst, if_neg o2]
         have ek : (ok && Nat.ble 4 len) = pK (Int.ofNat o) (w.drop off) ok (0 + 1) := by rw [hl]; unfold pK pR; simp only [pst, if_neg o2]
         have al : (encU .u32 (pA (Int.ofNat o) (w.drop off) ok (0 + 1))).length = 0 + 1 := by rw [encU_length, pA_len]
         have ea : [AV.int .u32 (Int.ofNat (numN (pR (Int.ofNat o) (w.drop off) ok 0)))] = encU .u32 (pA (Int.ofNat o) (w.drop off) ok (0 + 1)) := ea
         have key := pA_3 o off len w.length (ofBytes w) ok m 0
         iterate 6
          replace key := key (by
           (try simp only [kept_eq, bytesL_ofBytes, AV.intOf, k0, k2, hw, Nat.zero_add, Nat.mul_one, hs, t4.1, t4.2, hs4, ea, al])
           first
            | done
            | with_reducible rfl
            | with_reducible exact ofBytes_plainL _
            | with_reducible exact u8L_ofBytes _
            | with_reducible exact encU_plainL _ _
            | with_reducible exact enD_plainL _
            | with_reducible exact room4 (by omega)
            | with_reducible exact room24 (by omega)
            | (rw [ofBytes_length]; exact Nat.beq_refl _)
            | (rw [nble]; exact decide_eq_true (by omega))
            | (simp [nbeq, nble]; done)
            | (simp [nbeq, nble, AV.plain, AV.plainL, ofBytes_plainL]; done))
         simp only [kept_eq, bytesL_ofBytes, AV.intOf, k0, k2, hw, Nat.zero_add, Nat.mul_one, hs, t4.1, t4.2, hs4, ea, al, er, ek] at key
         exact key
        | succ j =>
         have hl : (pR (Int.ofNat o) (w.drop off) ok (j + 1)).length = (pR (Int.ofNat o) (w.drop off) ok (j + 1)).length := rfl
         have hs : seg w (w.length - (pR (Int.ofNat o) (w.drop off) ok (j + 1)).length) (pR (Int.ofNat o) (w.drop off) ok (j + 1)).length = (pR (Int.ofNat o) (w.drop off) ok (j + 1)) := seg_suf hsuf
         have ho : (w.length - (pR (Int.ofNat o) (w.drop off) ok (j + 1)).length) + (pR (Int.ofNat o) (w.drop off) ok (j + 1)).length = w.length := by have := hsuf.length_le; omega
         have t4 := tk_suf 4 hsuf hl ho
         have s4 : rsB 4 (pR (Int.ofNat o) (w.drop off) ok (j + 1)) <:+ w := (rsB_suf 4 _).trans hsuf
         have n4 := s4.length_le
         have nr := hsuf.length_le
         have hs4 := seg_suf s4
         have ea : encU .u32 (pA (Int.ofNat o) (w.drop off) ok (j + 1)) ++ [AV.int .u32 (Int.ofNat (numN (pR (Int.ofNat o) (w.drop off) ok (j + 1))))] = encU .u32 (pA (Int.ofNat o) (w.drop off) ok ((j + 1) + 1)) := by
          have : pA (Int.ofNat o) (w.drop off) ok ((j + 1) + 1) = pA (Int.ofNat o) (w.drop off) ok (j + 1) ++ [nuB (pR (Int.ofNat o) (w.drop off) ok (j + 1))] := by unfold pA pR; simp only [pst]; split <;> rfl
          rw [this, ← encU_snoc]; rfl
         have er : rsB 4 (pR (Int.ofNat o) (w.drop off) ok (j + 1)) = pR (Int.ofNat o) (w.drop off) ok ((j + 1) + 1) := by unfold pR; simp only [pst, if_neg o2]
         have ek : ((pK (Int.ofNat o) (w.drop off) ok (j + 1)) && Nat.ble 4 (pR (Int.ofNat o) (w.drop off) ok (j + 1)).length) = pK (Int.ofNat o) (w.drop off) ok ((j + 1) + 1) := by unfold pK pR; simp only [pst, if_neg o2]
         have al : (encU .u32 (pA (Int.ofNat o) (w.drop off) ok ((j + 1) + 1))).length = (j + 1) + 1 := by rw [encU_length, pA_len]
         have key := pB3_3 o (w.length - (pR (Int.ofNat o) (w.drop off) ok (j + 1)).length) (pR (Int.ofNat o) (w.drop off) ok (j + 1)).length w.length (ofBytes w) (pK (Int.ofNat o) (w.drop off) ok (j + 1)) m (j + 1) (j + 1) (j + 1) (encU .u32 (pA (Int.ofNat o) (w.drop off) ok (j + 1)))
         iterate 9
          replace key := key (by
           (try simp only [kept_eq, bytesL_ofBytes, AV.intOf, k0, k2, hw, Nat.zero_add, Nat.mul_one, hs, t4.1, t4.2, hs4, ea, al])
           first
            | done
            | with_reducible rfl
            | with_reducible exact ofBytes_plainL _
            | with_reducible exact u8L_ofBytes _
            | with_reducible exact encU_plainL _ _
            | with_reducible exact enD_plainL _
            | with_reducible exact room4 (by omega)
            | with_reducible exact room24 (by omega)
            | (rw [ofBytes_length]; exact Nat.beq_refl _)
            | (rw [nble]; exact decide_eq_true (by omega))
            | (simp [nbeq, nble]; done)
            | (simp [nbeq, nble, AV.plain, AV.plainL, ofBytes_plainL]; done))
         simp only [kept_eq, bytesL_ofBytes, AV.intOf, k0, k2, hw, Nat.zero_add, Nat.mul_one, hs, t4.1, t4.2, hs4, ea, al, er, ek] at key
         exact key
      · have hi : m = i := by omega
        subst hi
        refine .inr ⟨?_, by simp⟩
        have k0 : iltB (Int.ofNat (m)) (Int.ofNat (m)) = false := by rw [iltB_eq]; exact decide_eq_false (by show ¬ ((m : Nat) : Int) < ((m : Nat) : Int); omega)
        rw [pp3E_some o off len w ok m _ (by omega)]
        exact pB3_e o (w.length - (pR (Int.ofNat o) (w.drop off) ok m).length) (pR (Int.ofNat o) (w.drop off) ok m).length w.length (ofBytes w) (pK (Int.ofNat o) (w.drop off) ok m) m m m m (encU .u32 (pA (Int.ofNat o) (w.drop off) ok m)) k0 (ofBytes_plainL _) (encU_plainL _ _)) ⟨0, Nat.zero_le _⟩
     rw [pp3E_some o off len w ok m m (by omega)] at key
     exact CodeOK.block 1 key
   · cases h
end Go.Proofs.Ytecncappdnhbaaa
end
end

section
noncomputable section
namespace Go.Proofs.Ytecncappdnhbaaa
open Go.Ab.M Go.Ab Go
def K10q : Known := { t := [(95, rightR.rt)], z := [(98, takeZ.zt), (96, byteZ.zt), (97, numZ.zt)], l := [((60, 1), ppL)] }
theorem K10q_ok : KOK Try.prog tys K10q := ⟨⟨RSum.rt_sound rightR_ok, trivial⟩, trivial, ⟨takeZ_ok, byteZ_ok, numZ_ok, trivial⟩, trivial, ⟨ppL_ok, trivial⟩⟩
abbrev C10q := mkCxZ tys fns K10q
theorem all10q : SumAll Try.prog C10q := sums_allZ K10q_ok
end Go.Proofs.Ytecncappdnhbaaa
end
end

section
noncomputable section
namespace Go.Ab.M
structure PQ where
 k : Bool
 r : List UInt8
 sub : Nat
 pl : Nat
 fi : Nat
 ct : Nat
 a : List UInt32
 d : List (List UInt8)
def parS (w : List UInt8) : PQ :=
 let r1 := rsB 1 w
 let k1 := Nat.ble 1 w.length
 if hdN w = 1 then ⟨(k1 && Nat.ble 4 r1.length) && Nat.ble 1 (rsB 4 r1).length, rsB 1 (rsB 4 r1), 0, 0, numN r1, hdN (rsB 4 r1), [], []⟩
 else if hdN w = 2 ∨ hdN w = 3 then ⟨pK (Int.ofNat (hdN w)) (rsB 1 r1) (k1 && Nat.ble 1 r1.length) (hdN r1), pR (Int.ofNat (hdN w)) (rsB 1 r1) (k1 && Nat.ble 1 r1.length) (hdN r1), 0, 0, 0, 0, pA (Int.ofNat (hdN w)) (rsB 1 r1) (k1 && Nat.ble 1 r1.length) (hdN r1), pD (Int.ofNat (hdN w)) (rsB 1 r1) (k1 && Nat.ble 1 r1.length) (hdN r1)⟩
 else if hdN w = 5 ∨ hdN w = 6 ∨ hdN w = 7 then ⟨(k1 && Nat.ble 1 r1.length) && Nat.ble 1 (rsB 1 r1).length, rsB 1 (rsB 1 r1), hdN r1, hdN (rsB 1 r1), 0, 0, [], []⟩
 else ⟨k1, r1, 0, 0, 0, 0, [], []⟩
def parR (w : List UInt8) : Bool := rightB (Int.ofNat (hdN w)) (Int.ofNat (parS w).sub) (Int.ofNat (parS w).pl) (Int.ofNat (parS w).fi) (Int.ofNat (parS w).ct) (parS w).a.length (parS w).d.length (enD (parS w).d)
def parOK (w : List UInt8) : Bool := (parS w).k && (Nat.beq (parS w).r.length 0 && parR w)
def qSub (w : List UInt8) : Nat := (parS w).sub
def qPl (w : List UInt8) : Nat := (parS w).pl
def qFi (w : List UInt8) : Nat := (parS w).fi
def qCt (w : List UInt8) : Nat := (parS w).ct
def qA (w : List UInt8) : List UInt32 := (parS w).a
def qD (w : List UInt8) : List (List UInt8) := (parS w).d
def nilN (n : Nat) : Bool := Nat.beq n 0
end Go.Ab.M
namespace Go.Proofs.Ytecncappdnhbaaa
open Go.Ab.M Go.Ab Go
abbrev zA (N : Nat) (cs : List AV) := (kept (hdN (seg (bytesL cs) 0 N)))
abbrev zB (N : Nat) (cs : List AV) := (kept (hdN (seg (bytesL cs) (kept (tkO 1 0 N)) (kept (tkL 1 N)))))
abbrev zO (N : Nat) := (kept (tkO 1 (kept (tkO 1 0 N)) (kept (tkL 1 N))))
abbrev zK (N : Nat) := (kept (kept (true && Nat.ble 1 N) && Nat.ble 1 (kept (tkL 1 N))))
abbrev zR (N : Nat) (cs : List AV) := (pR (Int.ofNat (zA N cs)) (List.drop (zO N) (bytesL cs)) (zK N) (zB N cs))
abbrev zP (N : Nat) (cs : List AV) := (pK (Int.ofNat (zA N cs)) (List.drop (zO N) (bytesL cs)) (zK N) (zB N cs))
abbrev zU (N : Nat) (cs : List AV) := (kept (encU IntKind.u32 (pA (Int.ofNat (zA N cs)) (List.drop (zO N) (bytesL cs)) (zK N) (zB N cs))))
abbrev zD (N : Nat) (cs : List AV) := (kept (enD (pD (Int.ofNat (zA N cs)) (List.drop (zO N) (bytesL cs)) (zK N) (zB N cs))))
abbrev zC (N : Nat) (cs : List AV) := aCall C10q 60 (Tgt.fn 60) [.slice (some (0, 0)) N none] (mkL [.cells true 5 N cs])
abbrev zV  := [AV.int IntKind.u8 (Int.ofNat 0), AV.int IntKind.u8 (Int.ofNat 0), AV.int IntKind.u8 (Int.ofNat 0), AV.int IntKind.u32 (Int.ofNat 0), AV.int IntKind.u8 (Int.ofNat 0), AV.slice none 0 (some 0), AV.slice none 0 (some 0)]
abbrev zH (N : Nat) (cs : List AV) := (kept (hdN (seg (bytesL cs) (zO N) (kept (tkL 1 (kept (tkL 1 N)))))))
theorem PL : (∀ l, AV.plainL (ofBytes l) = true) ∧ (∀ l, u8L (ofBytes l) = true) ∧ (∀ k l, AV.plainL (encU k l) = true) ∧ (∀ l, AV.plainL (enD l) = true) ∧ (∀ l, isD (enD l) = true) ∧ (∀ l, (ofBytes l).length = l.length) ∧ (∀ l, (enD l).length = l.length) ∧ (∀ n, Nat.beq n n = true) ∧ (∀ n, Nat.ble n n = true) :=
 ⟨ofBytes_plainL, u8L_ofBytes, encU_plainL, enD_plainL, fun l => isD_iff.2 ⟨_, rfl⟩, ofBytes_length, enD_length, Nat.beq_refl, fun n => Nat.ble_eq_true_of_le (Nat.le_refl n)⟩
theorem ZL : (∀ N cs, zA N cs = kept (hdN (seg (bytesL cs) 0 N))) ∧ (∀ N cs, zB N cs = kept (hdN (seg (bytesL cs) (kept (tkO 1 0 N)) (kept (tkL 1 N))))) ∧ (∀ N, zO N = kept (tkO 1 (kept (tkO 1 0 N)) (kept (tkL 1 N)))) ∧ (∀ N, zK N = kept (kept (true && Nat.ble 1 N) && Nat.ble 1 (kept (tkL 1 N)))) ∧ (∀ N cs, zR N cs = pR (Int.ofNat (zA N cs)) (List.drop (zO N) (bytesL cs)) (zK N) (zB N cs)) ∧ (∀ N cs, zP N cs = pK (Int.ofNat (zA N cs)) (List.drop (zO N) (bytesL cs)) (zK N) (zB N cs)) ∧ (∀ N cs, zU N cs = kept (encU IntKind.u32 (pA (Int.ofNat (zA N cs)) (List.drop (zO N) (bytesL cs)) (zK N) (zB N cs)))) ∧ (∀ N cs, zD N cs = kept (enD (pD (Int.ofNat (zA N cs)) (List.drop (zO N) (bytesL cs)) (zK N) (zB N cs)))) ∧ (∀ N cs, zH N cs = kept (hdN (seg (bytesL cs) (zO N) (kept (tkL 1 (kept (tkL 1 N))))))) ∧ ((!true) = false) ∧ ((!false) = true) ∧ (∀ w, bytesL (ofBytes w) = w) ∧ (∀ k n, (AV.int k n).intOf = n) ∧ (∀ b, (AV.bool b).boolOf = b) ∧ (∀ b, (true && b) = b) :=
 ⟨fun _ _ => rfl, fun _ _ => rfl, fun _ => rfl, fun _ => rfl, fun _ _ => rfl, fun _ _ => rfl, fun _ _ => rfl, fun _ _ => rfl, fun _ _ => rfl, rfl, rfl, bytesL_ofBytes, fun _ _ => rfl, fun _ => rfl, Bool.true_and⟩
abbrev VGd (w : List UInt8) : AV := (.tuple [.agg [.int .u8 (Int.ofNat (hdN w)), .int .u8 (Int.ofNat (qSub w)), .int .u8 (Int.ofNat (qPl w)), .int .u32 (Int.ofNat (qFi w)), .int .u8 (Int.ofNat (qCt w)), .fsl (nilN (qA w).length) (qA w).length (encU .u32 (qA w)), .fsl (nilN (qD w).length) (qD w).length (enD (qD w))], .int .i64 (Int.ofNat 0)])
abbrev VBd : AV := (.tuple [.agg [.int .u8 (Int.ofNat 0), .int .u8 (Int.ofNat 0), .int .u8 (Int.ofNat 0), .int .u32 (Int.ofNat 0), .int .u8 (Int.ofNat 0), .fsl true 0 [], .fsl true 0 []], .int .i64 (Int.ofNat 3)])
theorem Pa_tt (N : Nat) (cs : List AV) (h0 : (AV.plainL cs) = true) (h1 : (u8L cs) = true) (h2 : (cs.length.beq N) = true) (h3 : ((0 + N).ble N) = true) (h4 : (ieqB (Int.ofNat (zA N cs)) (Int.ofNat 1)) = true) (h5 : ((kept (tkO 1 0 N) + kept (tkL 1 N)).ble N) = true) (h6 : ((kept (tkO 4 (kept (tkO 1 0 N)) (kept (tkL 1 N))) + kept (tkL 4 (kept (tkL 1 N)))).ble N) = true) (h7 : (!(AV.bool (kept (kept (kept (true && Nat.ble 1 N) && Nat.ble 4 (kept (tkL 1 N))) && Nat.ble 1 (kept (tkL 4 (kept (tkL 1 N))))))).boolOf) = true) :
 ∃ h', zC N cs = some (AV.tuple [AV.agg zV, AV.int IntKind.i64 (Int.ofNat 3)], h') ∧ [0].map h'.get = [Blk.cells true 5 N cs] :=
 call_runZ (q := qNs [15,0,6,0,0,0,0,6,0,8,0,11,0,6,0,0,0,0,6,0,11,0,6,0,0,0,0,6,0,11,0,0,0,0,0,0,0,25]) (c := (cnT :: cnT :: cnT :: cnT :: cnT :: cnT :: cnT :: cnT :: cnT :: cnT :: cnT :: cnT :: cnT :: cnT :: cnT :: cnT :: cnT :: cnT :: cnT :: cnT :: cnT :: cnT :: cnT :: cnT :: cnT :: cnT :: [])) (by kernel_rfl) ⟨h0, h0, h1, h2, h3, h0, h4, h0, h0, h1, h2, h5, h0, h0, h0, h1, h2, h6, h0, h7, h7, h7, h7, h7, h7, h7, trivial⟩
theorem Pa_tft (N : Nat) (cs : List AV) (h0 : (AV.plainL cs) = true) (h1 : (u8L cs) = true) (h2 : (cs.length.beq N) = true) (h3 : ((0 + N).ble N) = true) (h4 : (ieqB (Int.ofNat (zA N cs)) (Int.ofNat 1)) = true) (h5 : ((kept (tkO 1 0 N) + kept (tkL 1 N)).ble N) = true) (h6 : ((kept (tkO 4 (kept (tkO 1 0 N)) (kept (tkL 1 N))) + kept (tkL 4 (kept (tkL 1 N)))).ble N) = true) (h7 : (!(AV.bool (kept (kept (kept (true && Nat.ble 1 N) && Nat.ble 4 (kept (tkL 1 N))) && Nat.ble 1 (kept (tkL 4 (kept (tkL 1 N))))))).boolOf) = false) (h8 : (iltB (Int.ofNat 0) (Int.ofNat (kept (tkL 1 (kept (tkL 4 (kept (tkL 1 N)))))))) = true) :
 ∃ h', zC N cs = some (AV.tuple [AV.agg zV, AV.int IntKind.i64 (Int.ofNat 3)], h') ∧ [0].map h'.get = [Blk.cells true 5 N cs] :=
 call_runZ (q := qNs [15,0,6,0,0,0,0,6,0,8,0,11,0,6,0,0,0,0,6,0,11,0,6,0,0,0,0,6,0,11,1,1,1,1,5,1,1,1,0,0,0,0,21]) (c := (cnT :: cnT :: cnT :: cnT :: cnT :: cnT :: cnT :: cnT :: cnT :: cnT :: cnT :: cnT :: cnT :: cnT :: cnT :: cnT :: cnT :: cnT :: cnT :: cnF :: cnF :: cnF :: cnF :: cnF :: cnF :: cnF :: cnT :: cnT :: cnT :: cnT :: [])) (by kernel_rfl) ⟨h0, h0, h1, h2, h3, h0, h4, h0, h0, h1, h2, h5, h0, h0, h0, h1, h2, h6, h0, h7, h7, h7, h7, h7, h7, h7, h8, h8, h8, h8, trivial⟩
theorem Pa_tfft (N : Nat) (cs : List AV) (h0 : (AV.plainL cs) = true) (h1 : (u8L cs) = true) (h2 : (cs.length.beq N) = true) (h3 : ((0 + N).ble N) = true) (h4 : (ieqB (Int.ofNat (zA N cs)) (Int.ofNat 1)) = true) (h5 : ((kept (tkO 1 0 N) + kept (tkL 1 N)).ble N) = true) (h6 : ((kept (tkO 4 (kept (tkO 1 0 N)) (kept (tkL 1 N))) + kept (tkL 4 (kept (tkL 1 N)))).ble N) = true) (h7 : (!(AV.bool (kept (kept (kept (true && Nat.ble 1 N) && Nat.ble 4 (kept (tkL 1 N))) && Nat.ble 1 (kept (tkL 4 (kept (tkL 1 N))))))).boolOf) = false) (h8 : (iltB (Int.ofNat 0) (Int.ofNat (kept (tkL 1 (kept (tkL 4 (kept (tkL 1 N)))))))) = false) (h9 : (ileB (AV.int IntKind.u8 (Int.ofNat (kept (hdN (seg (bytesL cs) (kept (tkO 4 (kept (tkO 1 0 N)) (kept (tkL 1 N)))) (kept (tkL 4 (kept (tkL 1 N))))))))).intOf (Int.ofNat 255)) = true) (h10 : (!kept (rightB (Int.ofNat (zA N cs)) (Int.ofNat 0) (Int.ofNat 0) (AV.int IntKind.u32 (Int.ofNat (kept (numN (seg (bytesL cs) (kept (tkO 1 0 N)) (kept (tkL 1 N))))))).intOf (AV.int IntKind.u8 (Int.ofNat (kept (hdN (seg (bytesL cs) (kept (tkO 4 (kept (tkO 1 0 N)) (kept (tkL 1 N)))) (kept (tkL 4 (kept (tkL 1 N))))))))).intOf 0 0 [])) = true) :
 ∃ h', zC N cs = some (AV.tuple [AV.agg zV, AV.int IntKind.i64 (Int.ofNat 3)], h') ∧ [0].map h'.get = [Blk.cells true 5 N cs] :=
 call_runZ (q := qNs [15,0,6,0,0,0,0,6,0,8,0,11,0,6,0,0,0,0,6,0,11,0,6,0,0,0,0,6,0,11,1,1,1,1,5,1,1,1,1,17,1,5,0,6,1,1,0,20]) (c := (cnT :: cnT :: cnT :: cnT :: cnT :: cnT :: cnT :: cnT :: cnT :: cnT :: cnT :: cnT :: cnT :: cnT :: cnT :: cnT :: cnT :: cnT :: cnT :: cnF :: cnF :: cnF :: cnF :: cnF :: cnF :: cnF :: cnF :: cnF :: cnT :: cnF :: cnF :: cnT :: [])) (by kernel_rfl) ⟨h0, h0, h1, h2, h3, h0, h4, h0, h0, h1, h2, h5, h0, h0, h0, h1, h2, h6, h0, h7, h7, h7, h7, h7, h7, h7, h8, h8, h9, h8, h8, h10, trivial⟩
theorem Pa_tfff (N : Nat) (cs : List AV) (h0 : (AV.plainL cs) = true) (h1 : (u8L cs) = true) (h2 : (cs.length.beq N) = true) (h3 : ((0 + N).ble N) = true) (h4 : (ieqB (Int.ofNat (zA N cs)) (Int.ofNat 1)) = true) (h5 : ((kept (tkO 1 0 N) + kept (tkL 1 N)).ble N) = true) (h6 : ((kept (tkO 4 (kept (tkO 1 0 N)) (kept (tkL 1 N))) + kept (tkL 4 (kept (tkL 1 N)))).ble N) = true) (h7 : (!(AV.bool (kept (kept (kept (true && Nat.ble 1 N) && Nat.ble 4 (kept (tkL 1 N))) && Nat.ble 1 (kept (tkL 4 (kept (tkL 1 N))))))).boolOf) = false) (h8 : (iltB (Int.ofNat 0) (Int.ofNat (kept (tkL 1 (kept (tkL 4 (kept (tkL 1 N)))))))) = false) (h9 : (ileB (AV.int IntKind.u8 (Int.ofNat (kept (hdN (seg (bytesL cs) (kept (tkO 4 (kept (tkO 1 0 N)) (kept (tkL 1 N)))) (kept (tkL 4 (kept (tkL 1 N))))))))).intOf (Int.ofNat 255)) = true) (h10 : (!kept (rightB (Int.ofNat (zA N cs)) (Int.ofNat 0) (Int.ofNat 0) (AV.int IntKind.u32 (Int.ofNat (kept (numN (seg (bytesL cs) (kept (tkO 1 0 N)) (kept (tkL 1 N))))))).intOf (AV.int IntKind.u8 (Int.ofNat (kept (hdN (seg (bytesL cs) (kept (tkO 4 (kept (tkO 1 0 N)) (kept (tkL 1 N)))) (kept (tkL 4 (kept (tkL 1 N))))))))).intOf 0 0 [])) = false) :
 ∃ h', zC N cs = some (AV.tuple [AV.agg [AV.int IntKind.u8 (Int.ofNat (zA N cs)), AV.int IntKind.u8 (Int.ofNat 0), AV.int IntKind.u8 (Int.ofNat 0), AV.int IntKind.u32 (AV.int IntKind.u32 (AV.int IntKind.u32 (Int.ofNat (kept (numN (seg (bytesL cs) (kept (tkO 1 0 N)) (kept (tkL 1 N))))))).intOf).intOf, AV.int IntKind.u8 (AV.int IntKind.u8 (AV.int IntKind.u8 (Int.ofNat (kept (hdN (seg (bytesL cs) (kept (tkO 4 (kept (tkO 1 0 N)) (kept (tkL 1 N)))) (kept (tkL 4 (kept (tkL 1 N))))))))).intOf).intOf, AV.slice none 0 (some 0), AV.slice none 0 (some 0)], AV.int IntKind.i64 (Int.ofNat 0)], h') ∧ [0].map h'.get = [Blk.cells true 5 N cs] :=
 call_runZ (q := qNs [15,0,6,0,0,0,0,6,0,8,0,11,0,6,0,0,0,0,6,0,11,0,6,0,0,0,0,6,0,11,1,1,1,1,5,1,1,1,1,17,1,5,0,6,1,1,1,35]) (c := (cnT :: cnT :: cnT :: cnT :: cnT :: cnT :: cnT :: cnT :: cnT :: cnT :: cnT :: cnT :: cnT :: cnT :: cnT :: cnT :: cnT :: cnT :: cnT :: cnF :: cnF :: cnF :: cnF :: cnF :: cnF :: cnF :: cnF :: cnF :: cnT :: cnF :: cnF :: cnF :: [])) (by kernel_rfl) ⟨h0, h0, h1, h2, h3, h0, h4, h0, h0, h1, h2, h5, h0, h0, h0, h1, h2, h6, h0, h7, h7, h7, h7, h7, h7, h7, h8, h8, h9, h8, h8, h10, trivial⟩
theorem Pa_fttt (N : Nat) (cs : List AV) (h0 : (AV.plainL cs) = true) (h1 : (u8L cs) = true) (h2 : (cs.length.beq N) = true) (h3 : ((0 + N).ble N) = true) (h4 : (ieqB (Int.ofNat (zA N cs)) (Int.ofNat 1)) = false) (h5 : (ieqB (Int.ofNat (zA N cs)) (Int.ofNat 2)) = true) (h6 : ((kept (tkO 1 0 N) + kept (tkL 1 N)).ble N) = true) (h7 : ((zB N cs).beq 0) = true) (h8 : (!(AV.bool (zK N)).boolOf) = true) :
 ∃ h', zC N cs = some (AV.tuple [AV.agg zV, AV.int IntKind.i64 (Int.ofNat 3)], h') ∧ [0].map h'.get = [Blk.cells true 5 N cs] :=
 call_runZ (q := qNs [15,0,6,0,0,0,0,6,0,8,1,0,0,11,0,6,0,0,0,0,6,0,0,20,0,10,0,0,3,0,11,0,5,0,0,0,0,0,0,0,25]) (c := (cnT :: cnT :: cnT :: cnT :: cnT :: cnT :: cnF :: cnT :: cnT :: cnT :: cnT :: cnT :: cnT :: cnT :: cnT :: Cnd.code (ZLT.lsumS (flOf tys) ((60, 1), ppL).snd).fst (ZLT.lsumS (flOf tys) ((60, 1), ppL).snd).fst :: cnT :: cnT :: cnT :: cnT :: cnT :: cnT :: cnT :: cnT :: cnT :: cnT :: cnT :: cnT :: cnT :: [])) (by kernel_rfl) ⟨h0, h0, h1, h2, h3, h0, h4, h5, h5, h0, h0, h1, h2, h6, h0, rfl, h7, h0, h0, h7, h0, h0, h8, h8, h8, h8, h8, h8, h8, trivial⟩
theorem Pa_fttft (N : Nat) (cs : List AV) (h0 : (AV.plainL cs) = true) (h1 : (u8L cs) = true) (h2 : (cs.length.beq N) = true) (h3 : ((0 + N).ble N) = true) (h4 : (ieqB (Int.ofNat (zA N cs)) (Int.ofNat 1)) = false) (h5 : (ieqB (Int.ofNat (zA N cs)) (Int.ofNat 2)) = true) (h6 : ((kept (tkO 1 0 N) + kept (tkL 1 N)).ble N) = true) (h7 : ((zB N cs).beq 0) = true) (h8 : (!(AV.bool (zK N)).boolOf) = false) (h9 : (iltB (Int.ofNat 0) (Int.ofNat (kept (tkL 1 (kept (tkL 1 N)))))) = true) :
 ∃ h', zC N cs = some (AV.tuple [AV.agg zV, AV.int IntKind.i64 (Int.ofNat 3)], h') ∧ [0].map h'.get = [Blk.cells true 5 N cs] :=
 call_runZ (q := qNs [15,0,6,0,0,0,0,6,0,8,1,0,0,11,0,6,0,0,0,0,6,0,0,20,0,10,0,0,3,0,11,0,5,1,1,1,1,5,1,1,1,0,0,0,0,21]) (c := (cnT :: cnT :: cnT :: cnT :: cnT :: cnT :: cnF :: cnT :: cnT :: cnT :: cnT :: cnT :: cnT :: cnT :: cnT :: Cnd.code (ZLT.lsumS (flOf tys) ((60, 1), ppL).snd).fst (ZLT.lsumS (flOf tys) ((60, 1), ppL).snd).fst :: cnT :: cnT :: cnT :: cnT :: cnT :: cnT :: cnF :: cnF :: cnF :: cnF :: cnF :: cnF :: cnF :: cnT :: cnT :: cnT :: cnT :: [])) (by kernel_rfl) ⟨h0, h0, h1, h2, h3, h0, h4, h5, h5, h0, h0, h1, h2, h6, h0, rfl, h7, h0, h0, h7, h0, h0, h8, h8, h8, h8, h8, h8, h8, h9, h9, h9, h9, trivial⟩
theorem Pa_ftftt (N : Nat) (cs : List AV) (h0 : (AV.plainL cs) = true) (h1 : (u8L cs) = true) (h2 : (cs.length.beq N) = true) (h3 : ((0 + N).ble N) = true) (h4 : (ieqB (Int.ofNat (zA N cs)) (Int.ofNat 1)) = false) (h5 : (ieqB (Int.ofNat (zA N cs)) (Int.ofNat 2)) = true) (h6 : ((kept (tkO 1 0 N) + kept (tkL 1 N)).ble N) = true) (h7 : ((zB N cs).beq 0) = false) (h8 : (ieqB (Int.ofNat (zA N cs)) (Int.ofNat 2)) = true) (h9 : ((kept (tkO 1 (kept (tkO 1 0 N)) (kept (tkL 1 N))) + kept (tkL 1 (kept (tkL 1 N)))).beq N) = true) (h10 : ((zB N cs).ble 255) = true) (h11 : (Nat.ble 1 (zB N cs)) = true) (h12 : (AV.plainL (zU N cs)) = true) (h13 : (AV.plainL (zD N cs)) = true) (h14 : (!(AV.bool (kept (zP N cs))).boolOf) = true) :
 ∃ h', zC N cs = some (AV.tuple [AV.agg zV, AV.int IntKind.i64 (Int.ofNat 3)], h') ∧ [0].map h'.get = [Blk.cells true 5 N cs] :=
 call_runZ (q := qNs [15,0,6,0,0,0,0,6,0,8,1,0,0,11,0,6,0,0,0,0,6,0,1,0,20,0,10,0,0,0,0,3,0,0,0,13,0,3,0,3,0,5,0,0,0,0,0,0,0,25]) (c := (cnT :: cnT :: cnT :: cnT :: cnT :: cnT :: cnF :: cnT :: cnT :: cnT :: cnT :: cnT :: cnT :: cnT :: cnT :: Cnd.code (ZLT.lsumS (flOf tys) ((60, 1), ppL).snd).fst (ZLT.lsumS (flOf tys) ((60, 1), ppL).snd).fst :: cnF :: cnT :: cnT :: cnT :: cnT :: cnT :: cnT :: cnT :: cnT :: cnT :: cnT :: cnT :: cnT :: cnT :: cnT :: cnT :: cnT :: cnT :: cnT :: cnT :: [])) (by kernel_rfl) ⟨h0, h0, h1, h2, h3, h0, h4, h5, h5, h0, h0, h1, h2, h6, h0, rfl, h7, h8, h0, h0, h1, h2, h9, h10, h11, h8, h0, h12, h13, h14, h14, h14, h14, h14, h14, h14, trivial⟩
theorem Pa_ffttt (N : Nat) (cs : List AV) (h0 : (AV.plainL cs) = true) (h1 : (u8L cs) = true) (h2 : (cs.length.beq N) = true) (h3 : ((0 + N).ble N) = true) (h4 : (ieqB (Int.ofNat (zA N cs)) (Int.ofNat 1)) = false) (h5 : (ieqB (Int.ofNat (zA N cs)) (Int.ofNat 2)) = false) (h6 : (ieqB (Int.ofNat (zA N cs)) (Int.ofNat 3)) = true) (h7 : ((kept (tkO 1 0 N) + kept (tkL 1 N)).ble N) = true) (h8 : ((zB N cs).beq 0) = true) (h9 : (!(AV.bool (zK N)).boolOf) = true) :
 ∃ h', zC N cs = some (AV.tuple [AV.agg zV, AV.int IntKind.i64 (Int.ofNat 3)], h') ∧ [0].map h'.get = [Blk.cells true 5 N cs] :=
 call_runZ (q := qNs [15,0,6,0,0,0,0,6,0,8,1,1,0,11,0,6,0,0,0,0,6,0,0,20,0,10,0,0,3,0,11,0,5,0,0,0,0,0,0,0,25]) (c := (cnT :: cnT :: cnT :: cnT :: cnT :: cnT :: cnF :: cnF :: cnT :: cnT :: cnT :: cnT :: cnT :: cnT :: cnT :: Cnd.code (ZLT.lsumS (flOf tys) ((60, 1), ppL).snd).fst (ZLT.lsumS (flOf tys) ((60, 1), ppL).snd).fst :: cnT :: cnT :: cnT :: cnT :: cnT :: cnT :: cnT :: cnT :: cnT :: cnT :: cnT :: cnT :: cnT :: [])) (by kernel_rfl) ⟨h0, h0, h1, h2, h3, h0, h4, h5, h6, h0, h0, h1, h2, h7, h0, rfl, h8, h0, h0, h8, h0, h0, h9, h9, h9, h9, h9, h9, h9, trivial⟩
theorem Pa_ffftt (N : Nat) (cs : List AV) (h0 : (AV.plainL cs) = true) (h1 : (u8L cs) = true) (h2 : (cs.length.beq N) = true) (h3 : ((0 + N).ble N) = true) (h4 : (ieqB (Int.ofNat (zA N cs)) (Int.ofNat 1)) = false) (h5 : (ieqB (Int.ofNat (zA N cs)) (Int.ofNat 2)) = false) (h6 : (ieqB (Int.ofNat (zA N cs)) (Int.ofNat 3)) = false) (h7 : (ieqB (Int.ofNat (zA N cs)) (Int.ofNat 5)) = true) (h8 : ((kept (tkO 1 0 N) + kept (tkL 1 N)).ble N) = true) (h9 : ((kept (tkO 1 (kept (tkO 1 0 N)) (kept (tkL 1 N))) + kept (tkL 1 (kept (tkL 1 N)))).ble N) = true) (h10 : (!(AV.bool (kept (kept (kept (true && Nat.ble 1 N) && Nat.ble 1 (kept (tkL 1 N))) && Nat.ble 1 (kept (tkL 1 (kept (tkL 1 N))))))).boolOf) = true) :
 ∃ h', zC N cs = some (AV.tuple [AV.agg zV, AV.int IntKind.i64 (Int.ofNat 3)], h') ∧ [0].map h'.get = [Blk.cells true 5 N cs] :=
 call_runZ (q := qNs [15,0,6,0,0,0,0,6,0,8,1,1,1,0,0,11,0,6,0,0,0,0,6,0,11,0,6,0,0,0,0,6,0,11,0,0,0,0,0,0,0,25]) (c := (cnT :: cnT :: cnT :: cnT :: cnT :: cnT :: cnF :: cnF :: cnF :: cnT :: cnT :: cnT :: cnT :: cnT :: cnT :: cnT :: cnT :: cnT :: cnT :: cnT :: cnT :: cnT :: cnT :: cnT :: cnT :: cnT :: cnT :: cnT :: cnT :: cnT :: [])) (by kernel_rfl) ⟨h0, h0, h1, h2, h3, h0, h4, h5, h6, h7, h7, h0, h0, h1, h2, h8, h0, h0, h0, h1, h2, h9, h0, h10, h10, h10, h10, h10, h10, h10, trivial⟩
theorem Pa_fttfft (N : Nat) (cs : List AV) (h0 : (AV.plainL cs) = true) (h1 : (u8L cs) = true) (h2 : (cs.length.beq N) = true) (h3 : ((0 + N).ble N) = true) (h4 : (ieqB (Int.ofNat (zA N cs)) (Int.ofNat 1)) = false) (h5 : (ieqB (Int.ofNat (zA N cs)) (Int.ofNat 2)) = true) (h6 : ((kept (tkO 1 0 N) + kept (tkL 1 N)).ble N) = true) (h7 : ((zB N cs).beq 0) = true) (h8 : (!(AV.bool (zK N)).boolOf) = false) (h9 : (iltB (Int.ofNat 0) (Int.ofNat (kept (tkL 1 (kept (tkL 1 N)))))) = false) (h10 : (!kept (rightB (Int.ofNat (zA N cs)) (Int.ofNat 0) (Int.ofNat 0) (Int.ofNat 0) (Int.ofNat 0) 0 0 [])) = true) :
 ∃ h', zC N cs = some (AV.tuple [AV.agg zV, AV.int IntKind.i64 (Int.ofNat 3)], h') ∧ [0].map h'.get = [Blk.cells true 5 N cs] :=
 call_runZ (q := qNs [15,0,6,0,0,0,0,6,0,8,1,0,0,11,0,6,0,0,0,0,6,0,0,20,0,10,0,0,3,0,11,0,5,1,1,1,1,5,1,1,1,1,17,1,10,1,1,0,20]) (c := (cnT :: cnT :: cnT :: cnT :: cnT :: cnT :: cnF :: cnT :: cnT :: cnT :: cnT :: cnT :: cnT :: cnT :: cnT :: Cnd.code (ZLT.lsumS (flOf tys) ((60, 1), ppL).snd).fst (ZLT.lsumS (flOf tys) ((60, 1), ppL).snd).fst :: cnT :: cnT :: cnT :: cnT :: cnT :: cnT :: cnF :: cnF :: cnF :: cnF :: cnF :: cnF :: cnF :: cnF :: cnF :: cnF :: cnF :: cnT :: [])) (by kernel_rfl) ⟨h0, h0, h1, h2, h3, h0, h4, h5, h5, h0, h0, h1, h2, h6, h0, rfl, h7, h0, h0, h7, h0, h0, h8, h8, h8, h8, h8, h8, h8, h9, h9, h9, h9, h10, trivial⟩
theorem Pa_fttfff (N : Nat) (cs : List AV) (h0 : (AV.plainL cs) = true) (h1 : (u8L cs) = true) (h2 : (cs.length.beq N) = true) (h3 : ((0 + N).ble N) = true) (h4 : (ieqB (Int.ofNat (zA N cs)) (Int.ofNat 1)) = false) (h5 : (ieqB (Int.ofNat (zA N cs)) (Int.ofNat 2)) = true) (h6 : ((kept (tkO 1 0 N) + kept (tkL 1 N)).ble N) = true) (h7 : ((zB N cs).beq 0) = true) (h8 : (!(AV.bool (zK N)).boolOf) = false) (h9 : (iltB (Int.ofNat 0) (Int.ofNat (kept (tkL 1 (kept (tkL 1 N)))))) = false) (h10 : (!kept (rightB (Int.ofNat (zA N cs)) (Int.ofNat 0) (Int.ofNat 0) (Int.ofNat 0) (Int.ofNat 0) 0 0 [])) = false) :
 ∃ h', zC N cs = some (AV.tuple [AV.agg [AV.int IntKind.u8 (Int.ofNat (zA N cs)), AV.int IntKind.u8 (Int.ofNat 0), AV.int IntKind.u8 (Int.ofNat 0), AV.int IntKind.u32 (Int.ofNat 0), AV.int IntKind.u8 (Int.ofNat 0), AV.slice none 0 (some 0), AV.slice none 0 (some 0)], AV.int IntKind.i64 (Int.ofNat 0)], h') ∧ [0].map h'.get = [Blk.cells true 5 N cs] :=
 call_runZ (q := qNs [15,0,6,0,0,0,0,6,0,8,1,0,0,11,0,6,0,0,0,0,6,0,0,20,0,10,0,0,3,0,11,0,5,1,1,1,1,5,1,1,1,1,17,1,10,1,1,1,35]) (c := (cnT :: cnT :: cnT :: cnT :: cnT :: cnT :: cnF :: cnT :: cnT :: cnT :: cnT :: cnT :: cnT :: cnT :: cnT :: Cnd.code (ZLT.lsumS (flOf tys) ((60, 1), ppL).snd).fst (ZLT.lsumS (flOf tys) ((60, 1), ppL).snd).fst :: cnT :: cnT :: cnT :: cnT :: cnT :: cnT :: cnF :: cnF :: cnF :: cnF :: cnF :: cnF :: cnF :: cnF :: cnF :: cnF :: cnF :: cnF :: [])) (by kernel_rfl) ⟨h0, h0, h1, h2, h3, h0, h4, h5, h5, h0, h0, h1, h2, h6, h0, rfl, h7, h0, h0, h7, h0, h0, h8, h8, h8, h8, h8, h8, h8, h9, h9, h9, h9, h10, trivial⟩
theorem Pa_ftftft (N : Nat) (cs : List AV) (h0 : (AV.plainL cs) = true) (h1 : (u8L cs) = true) (h2 : (cs.length.beq N) = true) (h3 : ((0 + N).ble N) = true) (h4 : (ieqB (Int.ofNat (zA N cs)) (Int.ofNat 1)) = false) (h5 : (ieqB (Int.ofNat (zA N cs)) (Int.ofNat 2)) = true) (h6 : ((kept (tkO 1 0 N) + kept (tkL 1 N)).ble N) = true) (h7 : ((zB N cs).beq 0) = false) (h8 : (ieqB (Int.ofNat (zA N cs)) (Int.ofNat 2)) = true) (h9 : ((kept (tkO 1 (kept (tkO 1 0 N)) (kept (tkL 1 N))) + kept (tkL 1 (kept (tkL 1 N)))).beq N) = true) (h10 : ((zB N cs).ble 255) = true) (h11 : (Nat.ble 1 (zB N cs)) = true) (h12 : (AV.plainL (zU N cs)) = true) (h13 : (AV.plainL (zD N cs)) = true) (h14 : (!(AV.bool (kept (zP N cs))).boolOf) = false) (h15 : (iltB (Int.ofNat 0) (Int.ofNat (kept (zR N cs).length))) = true) :
 ∃ h', zC N cs = some (AV.tuple [AV.agg zV, AV.int IntKind.i64 (Int.ofNat 3)], h') ∧ [0].map h'.get = [Blk.cells true 5 N cs] :=
 call_runZ (q := qNs [15,0,6,0,0,0,0,6,0,8,1,0,0,11,0,6,0,0,0,0,6,0,1,0,20,0,10,0,0,0,0,3,0,0,0,13,0,3,0,3,0,5,1,1,1,1,5,1,1,1,0,0,0,0,21]) (c := (cnT :: cnT :: cnT :: cnT :: cnT :: cnT :: cnF :: cnT :: cnT :: cnT :: cnT :: cnT :: cnT :: cnT :: cnT :: Cnd.code (ZLT.lsumS (flOf tys) ((60, 1), ppL).snd).fst (ZLT.lsumS (flOf tys) ((60, 1), ppL).snd).fst :: cnF :: cnT :: cnT :: cnT :: cnT :: cnT :: cnT :: cnT :: cnT :: cnT :: cnT :: cnT :: cnT :: cnF :: cnF :: cnF :: cnF :: cnF :: cnF :: cnF :: cnT :: cnT :: cnT :: cnT :: [])) (by kernel_rfl) ⟨h0, h0, h1, h2, h3, h0, h4, h5, h5, h0, h0, h1, h2, h6, h0, rfl, h7, h8, h0, h0, h1, h2, h9, h10, h11, h8, h0, h12, h13, h14, h14, h14, h14, h14, h14, h14, h15, h15, h15, h15, trivial⟩
theorem Pa_ffttft (N : Nat) (cs : List AV) (h0 : (AV.plainL cs) = true) (h1 : (u8L cs) = true) (h2 : (cs.length.beq N) = true) (h3 : ((0 + N).ble N) = true) (h4 : (ieqB (Int.ofNat (zA N cs)) (Int.ofNat 1)) = false) (h5 : (ieqB (Int.ofNat (zA N cs)) (Int.ofNat 2)) = false) (h6 : (ieqB (Int.ofNat (zA N cs)) (Int.ofNat 3)) = true) (h7 : ((kept (tkO 1 0 N) + kept (tkL 1 N)).ble N) = true) (h8 : ((zB N cs).beq 0) = true) (h9 : (!(AV.bool (zK N)).boolOf) = false) (h10 : (iltB (Int.ofNat 0) (Int.ofNat (kept (tkL 1 (kept (tkL 1 N)))))) = true) :
 ∃ h', zC N cs = some (AV.tuple [AV.agg zV, AV.int IntKind.i64 (Int.ofNat 3)], h') ∧ [0].map h'.get = [Blk.cells true 5 N cs] :=
 call_runZ (q := qNs [15,0,6,0,0,0,0,6,0,8,1,1,0,11,0,6,0,0,0,0,6,0,0,20,0,10,0,0,3,0,11,0,5,1,1,1,1,5,1,1,1,0,0,0,0,21]) (c := (cnT :: cnT :: cnT :: cnT :: cnT :: cnT :: cnF :: cnF :: cnT :: cnT :: cnT :: cnT :: cnT :: cnT :: cnT :: Cnd.code (ZLT.lsumS (flOf tys) ((60, 1), ppL).snd).fst (ZLT.lsumS (flOf tys) ((60, 1), ppL).snd).fst :: cnT :: cnT :: cnT :: cnT :: cnT :: cnT :: cnF :: cnF :: cnF :: cnF :: cnF :: cnF :: cnF :: cnT :: cnT :: cnT :: cnT :: [])) (by kernel_rfl) ⟨h0, h0, h1, h2, h3, h0, h4, h5, h6, h0, h0, h1, h2, h7, h0, rfl, h8, h0, h0, h8, h0, h0, h9, h9, h9, h9, h9, h9, h9, h10, h10, h10, h10, trivial⟩
theorem Pa_fftfft (N : Nat) (cs : List AV) (h0 : (AV.plainL cs) = true) (h1 : (u8L cs) = true) (h2 : (cs.length.beq N) = true) (h3 : ((0 + N).ble N) = true) (h4 : (ieqB (Int.ofNat (zA N cs)) (Int.ofNat 1)) = false) (h5 : (ieqB (Int.ofNat (zA N cs)) (Int.ofNat 2)) = false) (h6 : (ieqB (Int.ofNat (zA N cs)) (Int.ofNat 3)) = true) (h7 : ((kept (tkO 1 0 N) + kept (tkL 1 N)).ble N) = true) (h8 : ((zB N cs).beq 0) = false) (h9 : (ieqB (Int.ofNat (zA N cs)) (Int.ofNat 2)) = false) (h10 : ((kept (tkO 1 (kept (tkO 1 0 N)) (kept (tkL 1 N))) + kept (tkL 1 (kept (tkL 1 N)))).beq N) = true) (h11 : ((zB N cs).ble 255) = true) (h12 : (Nat.ble 1 (zB N cs)) = true) (h13 : (!ieqB (Int.ofNat (zA N cs)) (Int.ofNat 2)) = true) (h14 : (AV.plainL (zU N cs)) = true) (h15 : (!(AV.bool (kept (zP N cs))).boolOf) = true) :
 ∃ h', zC N cs = some (AV.tuple [AV.agg zV, AV.int IntKind.i64 (Int.ofNat 3)], h') ∧ [0].map h'.get = [Blk.cells true 5 N cs] :=
 call_runZ (q := qNs [15,0,6,0,0,0,0,6,0,8,1,1,0,11,0,6,0,0,0,0,6,0,1,1,20,0,10,0,0,0,0,3,0,0,0,12,0,3,0,5,0,0,0,0,0,0,0,25]) (c := (cnT :: cnT :: cnT :: cnT :: cnT :: cnT :: cnF :: cnF :: cnT :: cnT :: cnT :: cnT :: cnT :: cnT :: cnT :: Cnd.code (ZLT.lsumS (flOf tys) ((60, 1), ppL).snd).fst (ZLT.lsumS (flOf tys) ((60, 1), ppL).snd).fst :: cnF :: cnF :: cnT :: cnT :: cnT :: cnT :: cnT :: cnT :: cnT :: cnT :: cnT :: cnT :: cnT :: cnT :: cnT :: cnT :: cnT :: cnT :: cnT :: [])) (by kernel_rfl) ⟨h0, h0, h1, h2, h3, h0, h4, h5, h6, h0, h0, h1, h2, h7, h0, rfl, h8, h9, h0, h0, h1, h2, h10, h11, h12, h13, h0, h14, h15, h15, h15, h15, h15, h15, h15, trivial⟩
theorem Pa_ffftft (N : Nat) (cs : List AV) (h0 : (AV.plainL cs) = true) (h1 : (u8L cs) = true) (h2 : (cs.length.beq N) = true) (h3 : ((0 + N).ble N) = true) (h4 : (ieqB (Int.ofNat (zA N cs)) (Int.ofNat 1)) = false) (h5 : (ieqB (Int.ofNat (zA N cs)) (Int.ofNat 2)) = false) (h6 : (ieqB (Int.ofNat (zA N cs)) (Int.ofNat 3)) = false) (h7 : (ieqB (Int.ofNat (zA N cs)) (Int.ofNat 5)) = true) (h8 : ((kept (tkO 1 0 N) + kept (tkL 1 N)).ble N) = true) (h9 : ((kept (tkO 1 (kept (tkO 1 0 N)) (kept (tkL 1 N))) + kept (tkL 1 (kept (tkL 1 N)))).ble N) = true) (h10 : (!(AV.bool (kept (kept (kept (true && Nat.ble 1 N) && Nat.ble 1 (kept (tkL 1 N))) && Nat.ble 1 (kept (tkL 1 (kept (tkL 1 N))))))).boolOf) = false) (h11 : (iltB (Int.ofNat 0) (Int.ofNat (kept (tkL 1 (kept (tkL 1 (kept (tkL 1 N)))))))) = true) :
 ∃ h', zC N cs = some (AV.tuple [AV.agg zV, AV.int IntKind.i64 (Int.ofNat 3)], h') ∧ [0].map h'.get = [Blk.cells true 5 N cs] :=
 call_runZ (q := qNs [15,0,6,0,0,0,0,6,0,8,1,1,1,0,0,11,0,6,0,0,0,0,6,0,11,0,6,0,0,0,0,6,0,11,1,1,1,1,5,1,1,1,0,0,0,0,21]) (c := (cnT :: cnT :: cnT :: cnT :: cnT :: cnT :: cnF :: cnF :: cnF :: cnT :: cnT :: cnT :: cnT :: cnT :: cnT :: cnT :: cnT :: cnT :: cnT :: cnT :: cnT :: cnT :: cnT :: cnF :: cnF :: cnF :: cnF :: cnF :: cnF :: cnF :: cnT :: cnT :: cnT :: cnT :: [])) (by kernel_rfl) ⟨h0, h0, h1, h2, h3, h0, h4, h5, h6, h7, h7, h0, h0, h1, h2, h8, h0, h0, h0, h1, h2, h9, h0, h10, h10, h10, h10, h10, h10, h10, h11, h11, h11, h11, trivial⟩
theorem Pa_fffftt (N : Nat) (cs : List AV) (h0 : (AV.plainL cs) = true) (h1 : (u8L cs) = true) (h2 : (cs.length.beq N) = true) (h3 : ((0 + N).ble N) = true) (h4 : (ieqB (Int.ofNat (zA N cs)) (Int.ofNat 1)) = false) (h5 : (ieqB (Int.ofNat (zA N cs)) (Int.ofNat 2)) = false) (h6 : (ieqB (Int.ofNat (zA N cs)) (Int.ofNat 3)) = false) (h7 : (ieqB (Int.ofNat (zA N cs)) (Int.ofNat 5)) = false) (h8 : (ieqB (Int.ofNat (zA N cs)) (Int.ofNat 6)) = true) (h9 : ((kept (tkO 1 0 N) + kept (tkL 1 N)).ble N) = true) (h10 : ((kept (tkO 1 (kept (tkO 1 0 N)) (kept (tkL 1 N))) + kept (tkL 1 (kept (tkL 1 N)))).ble N) = true) (h11 : (!(AV.bool (kept (kept (kept (true && Nat.ble 1 N) && Nat.ble 1 (kept (tkL 1 N))) && Nat.ble 1 (kept (tkL 1 (kept (tkL 1 N))))))).boolOf) = true) :
 ∃ h', zC N cs = some (AV.tuple [AV.agg zV, AV.int IntKind.i64 (Int.ofNat 3)], h') ∧ [0].map h'.get = [Blk.cells true 5 N cs] :=
 call_runZ (q := qNs [15,0,6,0,0,0,0,6,0,8,1,1,1,1,0,0,11,0,6,0,0,0,0,6,0,11,0,6,0,0,0,0,6,0,11,0,0,0,0,0,0,0,25]) (c := (cnT :: cnT :: cnT :: cnT :: cnT :: cnT :: cnF :: cnF :: cnF :: cnF :: cnT :: cnT :: cnT :: cnT :: cnT :: cnT :: cnT :: cnT :: cnT :: cnT :: cnT :: cnT :: cnT :: cnT :: cnT :: cnT :: cnT :: cnT :: cnT :: cnT :: cnT :: [])) (by kernel_rfl) ⟨h0, h0, h1, h2, h3, h0, h4, h5, h6, h7, h8, h8, h0, h0, h1, h2, h9, h0, h0, h0, h1, h2, h10, h0, h11, h11, h11, h11, h11, h11, h11, trivial⟩
theorem Pa_ftftfft (N : Nat) (cs : List AV) (h0 : (AV.plainL cs) = true) (h1 : (u8L cs) = true) (h2 : (cs.length.beq N) = true) (h3 : ((0 + N).ble N) = true) (h4 : (ieqB (Int.ofNat (zA N cs)) (Int.ofNat 1)) = false) (h5 : (ieqB (Int.ofNat (zA N cs)) (Int.ofNat 2)) = true) (h6 : ((kept (tkO 1 0 N) + kept (tkL 1 N)).ble N) = true) (h7 : ((zB N cs).beq 0) = false) (h8 : (ieqB (Int.ofNat (zA N cs)) (Int.ofNat 2)) = true) (h9 : ((kept (tkO 1 (kept (tkO 1 0 N)) (kept (tkL 1 N))) + kept (tkL 1 (kept (tkL 1 N)))).beq N) = true) (h10 : ((zB N cs).ble 255) = true) (h11 : (Nat.ble 1 (zB N cs)) = true) (h12 : (AV.plainL (zU N cs)) = true) (h13 : (AV.plainL (zD N cs)) = true) (h14 : (!(AV.bool (kept (zP N cs))).boolOf) = false) (h15 : (iltB (Int.ofNat 0) (Int.ofNat (kept (zR N cs).length))) = false) (h16 : ((0 + kept (hdN (seg (bytesL cs) (kept (tkO 1 0 N)) (kept (tkL 1 N)))) * 1).ble (zB N cs)) = true) (h17 : (isD (rowCut (zD N cs) 0 (kept (hdN (seg (bytesL cs) (kept (tkO 1 0 N)) (kept (tkL 1 N)))) * 1))) = true) (h18 : ((rowCut (zD N cs) 0 (kept (hdN (seg (bytesL cs) (kept (tkO 1 0 N)) (kept (tkL 1 N)))) * 1)).length.beq (zB N cs)) = true) (h19 : ((zB N cs).ble 1099511627776) = true) (h20 : (AV.plainL (rowCut (zU N cs) 0 (kept (hdN (seg (bytesL cs) (kept (tkO 1 0 N)) (kept (tkL 1 N)))) * 1))) = true) (h21 : (!kept (rightB (Int.ofNat (zA N cs)) (Int.ofNat 0) (Int.ofNat 0) (Int.ofNat 0) (Int.ofNat 0) (zB N cs) (zB N cs) (rowCut (zD N cs) 0 (kept (hdN (seg (bytesL cs) (kept (tkO 1 0 N)) (kept (tkL 1 N)))) * 1)))) = true) :
 ∃ h', zC N cs = some (AV.tuple [AV.agg zV, AV.int IntKind.i64 (Int.ofNat 3)], h') ∧ [0].map h'.get = [Blk.cells true 5 N cs] :=
 call_runZ (q := qNs [15,0,6,0,0,0,0,6,0,8,1,0,0,11,0,6,0,0,0,0,6,0,1,0,20,0,10,0,0,0,0,3,0,0,0,13,0,3,0,3,0,5,1,1,1,1,5,1,1,1,1,17,1,0,0,0,0,6,0,0,0,0,1,1,0,20]) (c := (cnT :: cnT :: cnT :: cnT :: cnT :: cnT :: cnF :: cnT :: cnT :: cnT :: cnT :: cnT :: cnT :: cnT :: cnT :: Cnd.code (ZLT.lsumS (flOf tys) ((60, 1), ppL).snd).fst (ZLT.lsumS (flOf tys) ((60, 1), ppL).snd).fst :: cnF :: cnT :: cnT :: cnT :: cnT :: cnT :: cnT :: cnT :: cnT :: cnT :: cnT :: cnT :: cnT :: cnF :: cnF :: cnF :: cnF :: cnF :: cnF :: cnF :: cnF :: cnF :: cnT :: cnT :: cnT :: cnT :: cnT :: cnT :: cnT :: cnT :: cnF :: cnF :: cnT :: [])) (by kernel_rfl) ⟨h0, h0, h1, h2, h3, h0, h4, h5, h5, h0, h0, h1, h2, h6, h0, rfl, h7, h8, h0, h0, h1, h2, h9, h10, h11, h8, h0, h12, h13, h14, h14, h14, h14, h14, h14, h14, h15, h15, h16, h12, h16, h13, h17, h18, h19, h20, h15, h15, h21, trivial⟩
theorem Pa_ftftfff (N : Nat) (cs : List AV) (h0 : (AV.plainL cs) = true) (h1 : (u8L cs) = true) (h2 : (cs.length.beq N) = true) (h3 : ((0 + N).ble N) = true) (h4 : (ieqB (Int.ofNat (zA N cs)) (Int.ofNat 1)) = false) (h5 : (ieqB (Int.ofNat (zA N cs)) (Int.ofNat 2)) = true) (h6 : ((kept (tkO 1 0 N) + kept (tkL 1 N)).ble N) = true) (h7 : ((zB N cs).beq 0) = false) (h8 : (ieqB (Int.ofNat (zA N cs)) (Int.ofNat 2)) = true) (h9 : ((kept (tkO 1 (kept (tkO 1 0 N)) (kept (tkL 1 N))) + kept (tkL 1 (kept (tkL 1 N)))).beq N) = true) (h10 : ((zB N cs).ble 255) = true) (h11 : (Nat.ble 1 (zB N cs)) = true) (h12 : (AV.plainL (zU N cs)) = true) (h13 : (AV.plainL (zD N cs)) = true) (h14 : (!(AV.bool (kept (zP N cs))).boolOf) = false) (h15 : (iltB (Int.ofNat 0) (Int.ofNat (kept (zR N cs).length))) = false) (h16 : ((0 + kept (hdN (seg (bytesL cs) (kept (tkO 1 0 N)) (kept (tkL 1 N)))) * 1).ble (zB N cs)) = true) (h17 : (isD (rowCut (zD N cs) 0 (kept (hdN (seg (bytesL cs) (kept (tkO 1 0 N)) (kept (tkL 1 N)))) * 1))) = true) (h18 : ((rowCut (zD N cs) 0 (kept (hdN (seg (bytesL cs) (kept (tkO 1 0 N)) (kept (tkL 1 N)))) * 1)).length.beq (zB N cs)) = true) (h19 : ((zB N cs).ble 1099511627776) = true) (h20 : (AV.plainL (rowCut (zU N cs) 0 (kept (hdN (seg (bytesL cs) (kept (tkO 1 0 N)) (kept (tkL 1 N)))) * 1))) = true) (h21 : (!kept (rightB (Int.ofNat (zA N cs)) (Int.ofNat 0) (Int.ofNat 0) (Int.ofNat 0) (Int.ofNat 0) (zB N cs) (zB N cs) (rowCut (zD N cs) 0 (kept (hdN (seg (bytesL cs) (kept (tkO 1 0 N)) (kept (tkL 1 N)))) * 1)))) = false) :
 ∃ h', zC N cs = some (AV.tuple [AV.agg [AV.int IntKind.u8 (Int.ofNat (zA N cs)), AV.int IntKind.u8 (Int.ofNat 0), AV.int IntKind.u8 (Int.ofNat 0), AV.int IntKind.u32 (Int.ofNat 0), AV.int IntKind.u8 (Int.ofNat 0), AV.slice (some (4, 0)) (zB N cs) none, AV.slice (some (5, 0)) (zB N cs) none], AV.int IntKind.i64 (Int.ofNat 0)], h') ∧ [0, 4, 5].map h'.get = [Blk.cells true 5 N cs, Blk.cells true 27 (zB N cs) (zU N cs), Blk.cells true 36 (zB N cs) (zD N cs)] :=
 call_runZ (q := qNs [15,0,6,0,0,0,0,6,0,8,1,0,0,11,0,6,0,0,0,0,6,0,1,0,20,0,10,0,0,0,0,3,0,0,0,13,0,3,0,3,0,5,1,1,1,1,5,1,1,1,1,17,1,0,0,0,0,6,0,0,0,0,1,1,1,35]) (c := (cnT :: cnT :: cnT :: cnT :: cnT :: cnT :: cnF :: cnT :: cnT :: cnT :: cnT :: cnT :: cnT :: cnT :: cnT :: Cnd.code (ZLT.lsumS (flOf tys) ((60, 1), ppL).snd).fst (ZLT.lsumS (flOf tys) ((60, 1), ppL).snd).fst :: cnF :: cnT :: cnT :: cnT :: cnT :: cnT :: cnT :: cnT :: cnT :: cnT :: cnT :: cnT :: cnT :: cnF :: cnF :: cnF :: cnF :: cnF :: cnF :: cnF :: cnF :: cnF :: cnT :: cnT :: cnT :: cnT :: cnT :: cnT :: cnT :: cnT :: cnF :: cnF :: cnF :: [])) (by kernel_rfl) ⟨h0, h0, h1, h2, h3, h0, h4, h5, h5, h0, h0, h1, h2, h6, h0, rfl, h7, h8, h0, h0, h1, h2, h9, h10, h11, h8, h0, h12, h13, h14, h14, h14, h14, h14, h14, h14, h15, h15, h16, h12, h16, h13, h17, h18, h19, h20, h15, h15, h21, trivial⟩
theorem Pa_ffttfft (N : Nat) (cs : List AV) (h0 : (AV.plainL cs) = true) (h1 : (u8L cs) = true) (h2 : (cs.length.beq N) = true) (h3 : ((0 + N).ble N) = true) (h4 : (ieqB (Int.ofNat (zA N cs)) (Int.ofNat 1)) = false) (h5 : (ieqB (Int.ofNat (zA N cs)) (Int.ofNat 2)) = false) (h6 : (ieqB (Int.ofNat (zA N cs)) (Int.ofNat 3)) = true) (h7 : ((kept (tkO 1 0 N) + kept (tkL 1 N)).ble N) = true) (h8 : ((zB N cs).beq 0) = true) (h9 : (!(AV.bool (zK N)).boolOf) = false) (h10 : (iltB (Int.ofNat 0) (Int.ofNat (kept (tkL 1 (kept (tkL 1 N)))))) = false) (h11 : (!kept (rightB (Int.ofNat (zA N cs)) (Int.ofNat 0) (Int.ofNat 0) (Int.ofNat 0) (Int.ofNat 0) 0 0 [])) = true) :
 ∃ h', zC N cs = some (AV.tuple [AV.agg zV, AV.int IntKind.i64 (Int.ofNat 3)], h') ∧ [0].map h'.get = [Blk.cells true 5 N cs] :=
 call_runZ (q := qNs [15,0,6,0,0,0,0,6,0,8,1,1,0,11,0,6,0,0,0,0,6,0,0,20,0,10,0,0,3,0,11,0,5,1,1,1,1,5,1,1,1,1,17,1,10,1,1,0,20]) (c := (cnT :: cnT :: cnT :: cnT :: cnT :: cnT :: cnF :: cnF :: cnT :: cnT :: cnT :: cnT :: cnT :: cnT :: cnT :: Cnd.code (ZLT.lsumS (flOf tys) ((60, 1), ppL).snd).fst (ZLT.lsumS (flOf tys) ((60, 1), ppL).snd).fst :: cnT :: cnT :: cnT :: cnT :: cnT :: cnT :: cnF :: cnF :: cnF :: cnF :: cnF :: cnF :: cnF :: cnF :: cnF :: cnF :: cnF :: cnT :: [])) (by kernel_rfl) ⟨h0, h0, h1, h2, h3, h0, h4, h5, h6, h0, h0, h1, h2, h7, h0, rfl, h8, h0, h0, h8, h0, h0, h9, h9, h9, h9, h9, h9, h9, h10, h10, h10, h10, h11, trivial⟩
theorem Pa_ffttfff (N : Nat) (cs : List AV) (h0 : (AV.plainL cs) = true) (h1 : (u8L cs) = true) (h2 : (cs.length.beq N) = true) (h3 : ((0 + N).ble N) = true) (h4 : (ieqB (Int.ofNat (zA N cs)) (Int.ofNat 1)) = false) (h5 : (ieqB (Int.ofNat (zA N cs)) (Int.ofNat 2)) = false) (h6 : (ieqB (Int.ofNat (zA N cs)) (Int.ofNat 3)) = true) (h7 : ((kept (tkO 1 0 N) + kept (tkL 1 N)).ble N) = true) (h8 : ((zB N cs).beq 0) = true) (h9 : (!(AV.bool (zK N)).boolOf) = false) (h10 : (iltB (Int.ofNat 0) (Int.ofNat (kept (tkL 1 (kept (tkL 1 N)))))) = false) (h11 : (!kept (rightB (Int.ofNat (zA N cs)) (Int.ofNat 0) (Int.ofNat 0) (Int.ofNat 0) (Int.ofNat 0) 0 0 [])) = false) :
 ∃ h', zC N cs = some (AV.tuple [AV.agg [AV.int IntKind.u8 (Int.ofNat (zA N cs)), AV.int IntKind.u8 (Int.ofNat 0), AV.int IntKind.u8 (Int.ofNat 0), AV.int IntKind.u32 (Int.ofNat 0), AV.int IntKind.u8 (Int.ofNat 0), AV.slice none 0 (some 0), AV.slice none 0 (some 0)], AV.int IntKind.i64 (Int.ofNat 0)], h') ∧ [0].map h'.get = [Blk.cells true 5 N cs] :=
 call_runZ (q := qNs [15,0,6,0,0,0,0,6,0,8,1,1,0,11,0,6,0,0,0,0,6,0,0,20,0,10,0,0,3,0,11,0,5,1,1,1,1,5,1,1,1,1,17,1,10,1,1,1,35]) (c := (cnT :: cnT :: cnT :: cnT :: cnT :: cnT :: cnF :: cnF :: cnT :: cnT :: cnT :: cnT :: cnT :: cnT :: cnT :: Cnd.code (ZLT.lsumS (flOf tys) ((60, 1), ppL).snd).fst (ZLT.lsumS (flOf tys) ((60, 1), ppL).snd).fst :: cnT :: cnT :: cnT :: cnT :: cnT :: cnT :: cnF :: cnF :: cnF :: cnF :: cnF :: cnF :: cnF :: cnF :: cnF :: cnF :: cnF :: cnF :: [])) (by kernel_rfl) ⟨h0, h0, h1, h2, h3, h0, h4, h5, h6, h0, h0, h1, h2, h7, h0, rfl, h8, h0, h0, h8, h0, h0, h9, h9, h9, h9, h9, h9, h9, h10, h10, h10, h10, h11, trivial⟩
theorem Pa_fftffft (N : Nat) (cs : List AV) (h0 : (AV.plainL cs) = true) (h1 : (u8L cs) = true) (h2 : (cs.length.beq N) = true) (h3 : ((0 + N).ble N) = true) (h4 : (ieqB (Int.ofNat (zA N cs)) (Int.ofNat 1)) = false) (h5 : (ieqB (Int.ofNat (zA N cs)) (Int.ofNat 2)) = false) (h6 : (ieqB (Int.ofNat (zA N cs)) (Int.ofNat 3)) = true) (h7 : ((kept (tkO 1 0 N) + kept (tkL 1 N)).ble N) = true) (h8 : ((zB N cs).beq 0) = false) (h9 : (ieqB (Int.ofNat (zA N cs)) (Int.ofNat 2)) = false) (h10 : ((kept (tkO 1 (kept (tkO 1 0 N)) (kept (tkL 1 N))) + kept (tkL 1 (kept (tkL 1 N)))).beq N) = true) (h11 : ((zB N cs).ble 255) = true) (h12 : (Nat.ble 1 (zB N cs)) = true) (h13 : (!ieqB (Int.ofNat (zA N cs)) (Int.ofNat 2)) = true) (h14 : (AV.plainL (zU N cs)) = true) (h15 : (!(AV.bool (kept (zP N cs))).boolOf) = false) (h16 : (iltB (Int.ofNat 0) (Int.ofNat (kept (zR N cs).length))) = true) :
 ∃ h', zC N cs = some (AV.tuple [AV.agg zV, AV.int IntKind.i64 (Int.ofNat 3)], h') ∧ [0].map h'.get = [Blk.cells true 5 N cs] :=
 call_runZ (q := qNs [15,0,6,0,0,0,0,6,0,8,1,1,0,11,0,6,0,0,0,0,6,0,1,1,20,0,10,0,0,0,0,3,0,0,0,12,0,3,0,5,1,1,1,1,5,1,1,1,0,0,0,0,21]) (c := (cnT :: cnT :: cnT :: cnT :: cnT :: cnT :: cnF :: cnF :: cnT :: cnT :: cnT :: cnT :: cnT :: cnT :: cnT :: Cnd.code (ZLT.lsumS (flOf tys) ((60, 1), ppL).snd).fst (ZLT.lsumS (flOf tys) ((60, 1), ppL).snd).fst :: cnF :: cnF :: cnT :: cnT :: cnT :: cnT :: cnT :: cnT :: cnT :: cnT :: cnT :: cnT :: cnF :: cnF :: cnF :: cnF :: cnF :: cnF :: cnF :: cnT :: cnT :: cnT :: cnT :: [])) (by kernel_rfl) ⟨h0, h0, h1, h2, h3, h0, h4, h5, h6, h0, h0, h1, h2, h7, h0, rfl, h8, h9, h0, h0, h1, h2, h10, h11, h12, h13, h0, h14, h15, h15, h15, h15, h15, h15, h15, h16, h16, h16, h16, trivial⟩
theorem Pa_ffftfft (N : Nat) (cs : List AV) (h0 : (AV.plainL cs) = true) (h1 : (u8L cs) = true) (h2 : (cs.length.beq N) = true) (h3 : ((0 + N).ble N) = true) (h4 : (ieqB (Int.ofNat (zA N cs)) (Int.ofNat 1)) = false) (h5 : (ieqB (Int.ofNat (zA N cs)) (Int.ofNat 2)) = false) (h6 : (ieqB (Int.ofNat (zA N cs)) (Int.ofNat 3)) = false) (h7 : (ieqB (Int.ofNat (zA N cs)) (Int.ofNat 5)) = true) (h8 : ((kept (tkO 1 0 N) + kept (tkL 1 N)).ble N) = true) (h9 : ((kept (tkO 1 (kept (tkO 1 0 N)) (kept (tkL 1 N))) + kept (tkL 1 (kept (tkL 1 N)))).ble N) = true) (h10 : (!(AV.bool (kept (kept (kept (true && Nat.ble 1 N) && Nat.ble 1 (kept (tkL 1 N))) && Nat.ble 1 (kept (tkL 1 (kept (tkL 1 N))))))).boolOf) = false) (h11 : (iltB (Int.ofNat 0) (Int.ofNat (kept (tkL 1 (kept (tkL 1 (kept (tkL 1 N)))))))) = false) (h12 : (!kept (rightB (Int.ofNat (zA N cs)) (AV.int IntKind.u8 (Int.ofNat (zB N cs))).intOf (AV.int IntKind.u8 (Int.ofNat (zH N cs))).intOf (Int.ofNat 0) (Int.ofNat 0) 0 0 [])) = true) :
 ∃ h', zC N cs = some (AV.tuple [AV.agg zV, AV.int IntKind.i64 (Int.ofNat 3)], h') ∧ [0].map h'.get = [Blk.cells true 5 N cs] :=
 call_runZ (q := qNs [15,0,6,0,0,0,0,6,0,8,1,1,1,0,0,11,0,6,0,0,0,0,6,0,11,0,6,0,0,0,0,6,0,11,1,1,1,1,5,1,1,1,1,17,1,10,1,1,0,20]) (c := (cnT :: cnT :: cnT :: cnT :: cnT :: cnT :: cnF :: cnF :: cnF :: cnT :: cnT :: cnT :: cnT :: cnT :: cnT :: cnT :: cnT :: cnT :: cnT :: cnT :: cnT :: cnT :: cnT :: cnF :: cnF :: cnF :: cnF :: cnF :: cnF :: cnF :: cnF :: cnF :: cnF :: cnF :: cnT :: [])) (by kernel_rfl) ⟨h0, h0, h1, h2, h3, h0, h4, h5, h6, h7, h7, h0, h0, h1, h2, h8, h0, h0, h0, h1, h2, h9, h0, h10, h10, h10, h10, h10, h10, h10, h11, h11, h11, h11, h12, trivial⟩
theorem Pa_ffftfff (N : Nat) (cs : List AV) (h0 : (AV.plainL cs) = true) (h1 : (u8L cs) = true) (h2 : (cs.length.beq N) = true) (h3 : ((0 + N).ble N) = true) (h4 : (ieqB (Int.ofNat (zA N cs)) (Int.ofNat 1)) = false) (h5 : (ieqB (Int.ofNat (zA N cs)) (Int.ofNat 2)) = false) (h6 : (ieqB (Int.ofNat (zA N cs)) (Int.ofNat 3)) = false) (h7 : (ieqB (Int.ofNat (zA N cs)) (Int.ofNat 5)) = true) (h8 : ((kept (tkO 1 0 N) + kept (tkL 1 N)).ble N) = true) (h9 : ((kept (tkO 1 (kept (tkO 1 0 N)) (kept (tkL 1 N))) + kept (tkL 1 (kept (tkL 1 N)))).ble N) = true) (h10 : (!(AV.bool (kept (kept (kept (true && Nat.ble 1 N) && Nat.ble 1 (kept (tkL 1 N))) && Nat.ble 1 (kept (tkL 1 (kept (tkL 1 N))))))).boolOf) = false) (h11 : (iltB (Int.ofNat 0) (Int.ofNat (kept (tkL 1 (kept (tkL 1 (kept (tkL 1 N)))))))) = false) (h12 : (!kept (rightB (Int.ofNat (zA N cs)) (AV.int IntKind.u8 (Int.ofNat (zB N cs))).intOf (AV.int IntKind.u8 (Int.ofNat (zH N cs))).intOf (Int.ofNat 0) (Int.ofNat 0) 0 0 [])) = false) :
 ∃ h', zC N cs = some (AV.tuple [AV.agg [AV.int IntKind.u8 (Int.ofNat (zA N cs)), AV.int IntKind.u8 (AV.int IntKind.u8 (AV.int IntKind.u8 (Int.ofNat (zB N cs))).intOf).intOf, AV.int IntKind.u8 (AV.int IntKind.u8 (AV.int IntKind.u8 (Int.ofNat (zH N cs))).intOf).intOf, AV.int IntKind.u32 (Int.ofNat 0), AV.int IntKind.u8 (Int.ofNat 0), AV.slice none 0 (some 0), AV.slice none 0 (some 0)], AV.int IntKind.i64 (Int.ofNat 0)], h') ∧ [0].map h'.get = [Blk.cells true 5 N cs] :=
 call_runZ (q := qNs [15,0,6,0,0,0,0,6,0,8,1,1,1,0,0,11,0,6,0,0,0,0,6,0,11,0,6,0,0,0,0,6,0,11,1,1,1,1,5,1,1,1,1,17,1,10,1,1,1,35]) (c := (cnT :: cnT :: cnT :: cnT :: cnT :: cnT :: cnF :: cnF :: cnF :: cnT :: cnT :: cnT :: cnT :: cnT :: cnT :: cnT :: cnT :: cnT :: cnT :: cnT :: cnT :: cnT :: cnT :: cnF :: cnF :: cnF :: cnF :: cnF :: cnF :: cnF :: cnF :: cnF :: cnF :: cnF :: cnF :: [])) (by kernel_rfl) ⟨h0, h0, h1, h2, h3, h0, h4, h5, h6, h7, h7, h0, h0, h1, h2, h8, h0, h0, h0, h1, h2, h9, h0, h10, h10, h10, h10, h10, h10, h10, h11, h11, h11, h11, h12, trivial⟩
theorem Pa_fffftft (N : Nat) (cs : List AV) (h0 : (AV.plainL cs) = true) (h1 : (u8L cs) = true) (h2 : (cs.length.beq N) = true) (h3 : ((0 + N).ble N) = true) (h4 : (ieqB (Int.ofNat (zA N cs)) (Int.ofNat 1)) = false) (h5 : (ieqB (Int.ofNat (zA N cs)) (Int.ofNat 2)) = false) (h6 : (ieqB (Int.ofNat (zA N cs)) (Int.ofNat 3)) = false) (h7 : (ieqB (Int.ofNat (zA N cs)) (Int.ofNat 5)) = false) (h8 : (ieqB (Int.ofNat (zA N cs)) (Int.ofNat 6)) = true) (h9 : ((kept (tkO 1 0 N) + kept (tkL 1 N)).ble N) = true) (h10 : ((kept (tkO 1 (kept (tkO 1 0 N)) (kept (tkL 1 N))) + kept (tkL 1 (kept (tkL 1 N)))).ble N) = true) (h11 : (!(AV.bool (kept (kept (kept (true && Nat.ble 1 N) && Nat.ble 1 (kept (tkL 1 N))) && Nat.ble 1 (kept (tkL 1 (kept (tkL 1 N))))))).boolOf) = false) (h12 : (iltB (Int.ofNat 0) (Int.ofNat (kept (tkL 1 (kept (tkL 1 (kept (tkL 1 N)))))))) = true) :
 ∃ h', zC N cs = some (AV.tuple [AV.agg zV, AV.int IntKind.i64 (Int.ofNat 3)], h') ∧ [0].map h'.get = [Blk.cells true 5 N cs] :=
 call_runZ (q := qNs [15,0,6,0,0,0,0,6,0,8,1,1,1,1,0,0,11,0,6,0,0,0,0,6,0,11,0,6,0,0,0,0,6,0,11,1,1,1,1,5,1,1,1,0,0,0,0,21]) (c := (cnT :: cnT :: cnT :: cnT :: cnT :: cnT :: cnF :: cnF :: cnF :: cnF :: cnT :: cnT :: cnT :: cnT :: cnT :: cnT :: cnT :: cnT :: cnT :: cnT :: cnT :: cnT :: cnT :: cnT :: cnF :: cnF :: cnF :: cnF :: cnF :: cnF :: cnF :: cnT :: cnT :: cnT :: cnT :: [])) (by kernel_rfl) ⟨h0, h0, h1, h2, h3, h0, h4, h5, h6, h7, h8, h8, h0, h0, h1, h2, h9, h0, h0, h0, h1, h2, h10, h0, h11, h11, h11, h11, h11, h11, h11, h12, h12, h12, h12, trivial⟩
theorem Pa_ffffftt (N : Nat) (cs : List AV) (h0 : (AV.plainL cs) = true) (h1 : (u8L cs) = true) (h2 : (cs.length.beq N) = true) (h3 : ((0 + N).ble N) = true) (h4 : (ieqB (Int.ofNat (zA N cs)) (Int.ofNat 1)) = false) (h5 : (ieqB (Int.ofNat (zA N cs)) (Int.ofNat 2)) = false) (h6 : (ieqB (Int.ofNat (zA N cs)) (Int.ofNat 3)) = false) (h7 : (ieqB (Int.ofNat (zA N cs)) (Int.ofNat 5)) = false) (h8 : (ieqB (Int.ofNat (zA N cs)) (Int.ofNat 6)) = false) (h9 : (ieqB (Int.ofNat (zA N cs)) (Int.ofNat 7)) = true) (h10 : ((kept (tkO 1 0 N) + kept (tkL 1 N)).ble N) = true) (h11 : ((kept (tkO 1 (kept (tkO 1 0 N)) (kept (tkL 1 N))) + kept (tkL 1 (kept (tkL 1 N)))).ble N) = true) (h12 : (!(AV.bool (kept (kept (kept (true && Nat.ble 1 N) && Nat.ble 1 (kept (tkL 1 N))) && Nat.ble 1 (kept (tkL 1 (kept (tkL 1 N))))))).boolOf) = true) :
 ∃ h', zC N cs = some (AV.tuple [AV.agg zV, AV.int IntKind.i64 (Int.ofNat 3)], h') ∧ [0].map h'.get = [Blk.cells true 5 N cs] :=
 call_runZ (q := qNs [15,0,6,0,0,0,0,6,0,8,1,1,1,1,1,0,11,0,6,0,0,0,0,6,0,11,0,6,0,0,0,0,6,0,11,0,0,0,0,0,0,0,25]) (c := (cnT :: cnT :: cnT :: cnT :: cnT :: cnT :: cnF :: cnF :: cnF :: cnF :: cnF :: cnT :: cnT :: cnT :: cnT :: cnT :: cnT :: cnT :: cnT :: cnT :: cnT :: cnT :: cnT :: cnT :: cnT :: cnT :: cnT :: cnT :: cnT :: cnT :: cnT :: [])) (by kernel_rfl) ⟨h0, h0, h1, h2, h3, h0, h4, h5, h6, h7, h8, h9, h0, h0, h1, h2, h10, h0, h0, h0, h1, h2, h11, h0, h12, h12, h12, h12, h12, h12, h12, trivial⟩
theorem Pa_fffffft (N : Nat) (cs : List AV) (h0 : (AV.plainL cs) = true) (h1 : (u8L cs) = true) (h2 : (cs.length.beq N) = true) (h3 : ((0 + N).ble N) = true) (h4 : (ieqB (Int.ofNat (zA N cs)) (Int.ofNat 1)) = false) (h5 : (ieqB (Int.ofNat (zA N cs)) (Int.ofNat 2)) = false) (h6 : (ieqB (Int.ofNat (zA N cs)) (Int.ofNat 3)) = false) (h7 : (ieqB (Int.ofNat (zA N cs)) (Int.ofNat 5)) = false) (h8 : (ieqB (Int.ofNat (zA N cs)) (Int.ofNat 6)) = false) (h9 : (ieqB (Int.ofNat (zA N cs)) (Int.ofNat 7)) = false) (h10 : (!(AV.bool (kept (true && Nat.ble 1 N))).boolOf) = true) :
 ∃ h', zC N cs = some (AV.tuple [AV.agg zV, AV.int IntKind.i64 (Int.ofNat 3)], h') ∧ [0].map h'.get = [Blk.cells true 5 N cs] :=
 call_runZ (q := qNs [15,0,6,0,0,0,0,6,0,8,1,1,1,1,1,1,5,0,0,0,0,0,0,0,25]) (c := (cnT :: cnT :: cnT :: cnT :: cnT :: cnT :: cnF :: cnF :: cnF :: cnF :: cnF :: cnF :: cnT :: cnT :: cnT :: cnT :: cnT :: cnT :: cnT :: [])) (by kernel_rfl) ⟨h0, h0, h1, h2, h3, h0, h4, h5, h6, h7, h8, h9, h10, h10, h10, h10, h10, h10, h10, trivial⟩
theorem Pa_fftfffft (N : Nat) (cs : List AV) (h0 : (AV.plainL cs) = true) (h1 : (u8L cs) = true) (h2 : (cs.length.beq N) = true) (h3 : ((0 + N).ble N) = true) (h4 : (ieqB (Int.ofNat (zA N cs)) (Int.ofNat 1)) = false) (h5 : (ieqB (Int.ofNat (zA N cs)) (Int.ofNat 2)) = false) (h6 : (ieqB (Int.ofNat (zA N cs)) (Int.ofNat 3)) = true) (h7 : ((kept (tkO 1 0 N) + kept (tkL 1 N)).ble N) = true) (h8 : ((zB N cs).beq 0) = false) (h9 : (ieqB (Int.ofNat (zA N cs)) (Int.ofNat 2)) = false) (h10 : ((kept (tkO 1 (kept (tkO 1 0 N)) (kept (tkL 1 N))) + kept (tkL 1 (kept (tkL 1 N)))).beq N) = true) (h11 : ((zB N cs).ble 255) = true) (h12 : (Nat.ble 1 (zB N cs)) = true) (h13 : (!ieqB (Int.ofNat (zA N cs)) (Int.ofNat 2)) = true) (h14 : (AV.plainL (zU N cs)) = true) (h15 : (!(AV.bool (kept (zP N cs))).boolOf) = false) (h16 : (iltB (Int.ofNat 0) (Int.ofNat (kept (zR N cs).length))) = false) (h17 : ((0 + kept (hdN (seg (bytesL cs) (kept (tkO 1 0 N)) (kept (tkL 1 N)))) * 1).ble (zB N cs)) = true) (h18 : (AV.plainL (rowCut (zU N cs) 0 (kept (hdN (seg (bytesL cs) (kept (tkO 1 0 N)) (kept (tkL 1 N)))) * 1))) = true) (h19 : (!kept (rightB (Int.ofNat (zA N cs)) (Int.ofNat 0) (Int.ofNat 0) (Int.ofNat 0) (Int.ofNat 0) (zB N cs) 0 [])) = true) :
 ∃ h', zC N cs = some (AV.tuple [AV.agg zV, AV.int IntKind.i64 (Int.ofNat 3)], h') ∧ [0].map h'.get = [Blk.cells true 5 N cs] :=
 call_runZ (q := qNs [15,0,6,0,0,0,0,6,0,8,1,1,0,11,0,6,0,0,0,0,6,0,1,1,20,0,10,0,0,0,0,3,0,0,0,12,0,3,0,5,1,1,1,1,5,1,1,1,1,17,1,0,0,9,0,1,1,0,20]) (c := (cnT :: cnT :: cnT :: cnT :: cnT :: cnT :: cnF :: cnF :: cnT :: cnT :: cnT :: cnT :: cnT :: cnT :: cnT :: Cnd.code (ZLT.lsumS (flOf tys) ((60, 1), ppL).snd).fst (ZLT.lsumS (flOf tys) ((60, 1), ppL).snd).fst :: cnF :: cnF :: cnT :: cnT :: cnT :: cnT :: cnT :: cnT :: cnT :: cnT :: cnT :: cnT :: cnF :: cnF :: cnF :: cnF :: cnF :: cnF :: cnF :: cnF :: cnF :: cnT :: cnT :: cnT :: cnF :: cnF :: cnT :: [])) (by kernel_rfl) ⟨h0, h0, h1, h2, h3, h0, h4, h5, h6, h0, h0, h1, h2, h7, h0, rfl, h8, h9, h0, h0, h1, h2, h10, h11, h12, h13, h0, h14, h15, h15, h15, h15, h15, h15, h15, h16, h16, h17, h14, h18, h16, h16, h19, trivial⟩
theorem Pa_fftfffff (N : Nat) (cs : List AV) (h0 : (AV.plainL cs) = true) (h1 : (u8L cs) = true) (h2 : (cs.length.beq N) = true) (h3 : ((0 + N).ble N) = true) (h4 : (ieqB (Int.ofNat (zA N cs)) (Int.ofNat 1)) = false) (h5 : (ieqB (Int.ofNat (zA N cs)) (Int.ofNat 2)) = false) (h6 : (ieqB (Int.ofNat (zA N cs)) (Int.ofNat 3)) = true) (h7 : ((kept (tkO 1 0 N) + kept (tkL 1 N)).ble N) = true) (h8 : ((zB N cs).beq 0) = false) (h9 : (ieqB (Int.ofNat (zA N cs)) (Int.ofNat 2)) = false) (h10 : ((kept (tkO 1 (kept (tkO 1 0 N)) (kept (tkL 1 N))) + kept (tkL 1 (kept (tkL 1 N)))).beq N) = true) (h11 : ((zB N cs).ble 255) = true) (h12 : (Nat.ble 1 (zB N cs)) = true) (h13 : (!ieqB (Int.ofNat (zA N cs)) (Int.ofNat 2)) = true) (h14 : (AV.plainL (zU N cs)) = true) (h15 : (!(AV.bool (kept (zP N cs))).boolOf) = false) (h16 : (iltB (Int.ofNat 0) (Int.ofNat (kept (zR N cs).length))) = false) (h17 : ((0 + kept (hdN (seg (bytesL cs) (kept (tkO 1 0 N)) (kept (tkL 1 N)))) * 1).ble (zB N cs)) = true) (h18 : (AV.plainL (rowCut (zU N cs) 0 (kept (hdN (seg (bytesL cs) (kept (tkO 1 0 N)) (kept (tkL 1 N)))) * 1))) = true) (h19 : (!kept (rightB (Int.ofNat (zA N cs)) (Int.ofNat 0) (Int.ofNat 0) (Int.ofNat 0) (Int.ofNat 0) (zB N cs) 0 [])) = false) :
 ∃ h', zC N cs = some (AV.tuple [AV.agg [AV.int IntKind.u8 (Int.ofNat (zA N cs)), AV.int IntKind.u8 (Int.ofNat 0), AV.int IntKind.u8 (Int.ofNat 0), AV.int IntKind.u32 (Int.ofNat 0), AV.int IntKind.u8 (Int.ofNat 0), AV.slice (some (4, 0)) (zB N cs) none, AV.slice none 0 (some 0)], AV.int IntKind.i64 (Int.ofNat 0)], h') ∧ [0, 4].map h'.get = [Blk.cells true 5 N cs, Blk.cells true 27 (zB N cs) (zU N cs)] :=
 call_runZ (q := qNs [15,0,6,0,0,0,0,6,0,8,1,1,0,11,0,6,0,0,0,0,6,0,1,1,20,0,10,0,0,0,0,3,0,0,0,12,0,3,0,5,1,1,1,1,5,1,1,1,1,17,1,0,0,9,0,1,1,1,35]) (c := (cnT :: cnT :: cnT :: cnT :: cnT :: cnT :: cnF :: cnF :: cnT :: cnT :: cnT :: cnT :: cnT :: cnT :: cnT :: Cnd.code (ZLT.lsumS (flOf tys) ((60, 1), ppL).snd).fst (ZLT.lsumS (flOf tys) ((60, 1), ppL).snd).fst :: cnF :: cnF :: cnT :: cnT :: cnT :: cnT :: cnT :: cnT :: cnT :: cnT :: cnT :: cnT :: cnF :: cnF :: cnF :: cnF :: cnF :: cnF :: cnF :: cnF :: cnF :: cnT :: cnT :: cnT :: cnF :: cnF :: cnF :: [])) (by kernel_rfl) ⟨h0, h0, h1, h2, h3, h0, h4, h5, h6, h0, h0, h1, h2, h7, h0, rfl, h8, h9, h0, h0, h1, h2, h10, h11, h12, h13, h0, h14, h15, h15, h15, h15, h15, h15, h15, h16, h16, h17, h14, h18, h16, h16, h19, trivial⟩
theorem Pa_fffftfft (N : Nat) (cs : List AV) (h0 : (AV.plainL cs) = true) (h1 : (u8L cs) = true) (h2 : (cs.length.beq N) = true) (h3 : ((0 + N).ble N) = true) (h4 : (ieqB (Int.ofNat (zA N cs)) (Int.ofNat 1)) = false) (h5 : (ieqB (Int.ofNat (zA N cs)) (Int.ofNat 2)) = false) (h6 : (ieqB (Int.ofNat (zA N cs)) (Int.ofNat 3)) = false) (h7 : (ieqB (Int.ofNat (zA N cs)) (Int.ofNat 5)) = false) (h8 : (ieqB (Int.ofNat (zA N cs)) (Int.ofNat 6)) = true) (h9 : ((kept (tkO 1 0 N) + kept (tkL 1 N)).ble N) = true) (h10 : ((kept (tkO 1 (kept (tkO 1 0 N)) (kept (tkL 1 N))) + kept (tkL 1 (kept (tkL 1 N)))).ble N) = true) (h11 : (!(AV.bool (kept (kept (kept (true && Nat.ble 1 N) && Nat.ble 1 (kept (tkL 1 N))) && Nat.ble 1 (kept (tkL 1 (kept (tkL 1 N))))))).boolOf) = false) (h12 : (iltB (Int.ofNat 0) (Int.ofNat (kept (tkL 1 (kept (tkL 1 (kept (tkL 1 N)))))))) = false) (h13 : (!kept (rightB (Int.ofNat (zA N cs)) (AV.int IntKind.u8 (Int.ofNat (zB N cs))).intOf (AV.int IntKind.u8 (Int.ofNat (zH N cs))).intOf (Int.ofNat 0) (Int.ofNat 0) 0 0 [])) = true) :
 ∃ h', zC N cs = some (AV.tuple [AV.agg zV, AV.int IntKind.i64 (Int.ofNat 3)], h') ∧ [0].map h'.get = [Blk.cells true 5 N cs] :=
 call_runZ (q := qNs [15,0,6,0,0,0,0,6,0,8,1,1,1,1,0,0,11,0,6,0,0,0,0,6,0,11,0,6,0,0,0,0,6,0,11,1,1,1,1,5,1,1,1,1,17,1,10,1,1,0,20]) (c := (cnT :: cnT :: cnT :: cnT :: cnT :: cnT :: cnF :: cnF :: cnF :: cnF :: cnT :: cnT :: cnT :: cnT :: cnT :: cnT :: cnT :: cnT :: cnT :: cnT :: cnT :: cnT :: cnT :: cnT :: cnF :: cnF :: cnF :: cnF :: cnF :: cnF :: cnF :: cnF :: cnF :: cnF :: cnF :: cnT :: [])) (by kernel_rfl) ⟨h0, h0, h1, h2, h3, h0, h4, h5, h6, h7, h8, h8, h0, h0, h1, h2, h9, h0, h0, h0, h1, h2, h10, h0, h11, h11, h11, h11, h11, h11, h11, h12, h12, h12, h12, h13, trivial⟩
theorem Pa_fffftfff (N : Nat) (cs : List AV) (h0 : (AV.plainL cs) = true) (h1 : (u8L cs) = true) (h2 : (cs.length.beq N) = true) (h3 : ((0 + N).ble N) = true) (h4 : (ieqB (Int.ofNat (zA N cs)) (Int.ofNat 1)) = false) (h5 : (ieqB (Int.ofNat (zA N cs)) (Int.ofNat 2)) = false) (h6 : (ieqB (Int.ofNat (zA N cs)) (Int.ofNat 3)) = false) (h7 : (ieqB (Int.ofNat (zA N cs)) (Int.ofNat 5)) = false) (h8 : (ieqB (Int.ofNat (zA N cs)) (Int.ofNat 6)) = true) (h9 : ((kept (tkO 1 0 N) + kept (tkL 1 N)).ble N) = true) (h10 : ((kept (tkO 1 (kept (tkO 1 0 N)) (kept (tkL 1 N))) + kept (tkL 1 (kept (tkL 1 N)))).ble N) = true) (h11 : (!(AV.bool (kept (kept (kept (true && Nat.ble 1 N) && Nat.ble 1 (kept (tkL 1 N))) && Nat.ble 1 (kept (tkL 1 (kept (tkL 1 N))))))).boolOf) = false) (h12 : (iltB (Int.ofNat 0) (Int.ofNat (kept (tkL 1 (kept (tkL 1 (kept (tkL 1 N)))))))) = false) (h13 : (!kept (rightB (Int.ofNat (zA N cs)) (AV.int IntKind.u8 (Int.ofNat (zB N cs))).intOf (AV.int IntKind.u8 (Int.ofNat (zH N cs))).intOf (Int.ofNat 0) (Int.ofNat 0) 0 0 [])) = false) :
 ∃ h', zC N cs = some (AV.tuple [AV.agg [AV.int IntKind.u8 (Int.ofNat (zA N cs)), AV.int IntKind.u8 (AV.int IntKind.u8 (AV.int IntKind.u8 (Int.ofNat (zB N cs))).intOf).intOf, AV.int IntKind.u8 (AV.int IntKind.u8 (AV.int IntKind.u8 (Int.ofNat (zH N cs))).intOf).intOf, AV.int IntKind.u32 (Int.ofNat 0), AV.int IntKind.u8 (Int.ofNat 0), AV.slice none 0 (some 0), AV.slice none 0 (some 0)], AV.int IntKind.i64 (Int.ofNat 0)], h') ∧ [0].map h'.get = [Blk.cells true 5 N cs] :=
 call_runZ (q := qNs [15,0,6,0,0,0,0,6,0,8,1,1,1,1,0,0,11,0,6,0,0,0,0,6,0,11,0,6,0,0,0,0,6,0,11,1,1,1,1,5,1,1,1,1,17,1,10,1,1,1,35]) (c := (cnT :: cnT :: cnT :: cnT :: cnT :: cnT :: cnF :: cnF :: cnF :: cnF :: cnT :: cnT :: cnT :: cnT :: cnT :: cnT :: cnT :: cnT :: cnT :: cnT :: cnT :: cnT :: cnT :: cnT :: cnF :: cnF :: cnF :: cnF :: cnF :: cnF :: cnF :: cnF :: cnF :: cnF :: cnF :: cnF :: [])) (by kernel_rfl) ⟨h0, h0, h1, h2, h3, h0, h4, h5, h6, h7, h8, h8, h0, h0, h1, h2, h9, h0, h0, h0, h1, h2, h10, h0, h11, h11, h11, h11, h11, h11, h11, h12, h12, h12, h12, h13, trivial⟩
theorem Pa_ffffftft (N : Nat) (cs : List AV) (h0 : (AV.plainL cs) = true) (h1 : (u8L cs) = true) (h2 : (cs.length.beq N) = true) (h3 : ((0 + N).ble N) = true) (h4 : (ieqB (Int.ofNat (zA N cs)) (Int.ofNat 1)) = false) (h5 : (ieqB (Int.ofNat (zA N cs)) (Int.ofNat 2)) = false) (h6 : (ieqB (Int.ofNat (zA N cs)) (Int.ofNat 3)) = false) (h7 : (ieqB (Int.ofNat (zA N cs)) (Int.ofNat 5)) = false) (h8 : (ieqB (Int.ofNat (zA N cs)) (Int.ofNat 6)) = false) (h9 : (ieqB (Int.ofNat (zA N cs)) (Int.ofNat 7)) = true) (h10 : ((kept (tkO 1 0 N) + kept (tkL 1 N)).ble N) = true) (h11 : ((kept (tkO 1 (kept (tkO 1 0 N)) (kept (tkL 1 N))) + kept (tkL 1 (kept (tkL 1 N)))).ble N) = true) (h12 : (!(AV.bool (kept (kept (kept (true && Nat.ble 1 N) && Nat.ble 1 (kept (tkL 1 N))) && Nat.ble 1 (kept (tkL 1 (kept (tkL 1 N))))))).boolOf) = false) (h13 : (iltB (Int.ofNat 0) (Int.ofNat (kept (tkL 1 (kept (tkL 1 (kept (tkL 1 N)))))))) = true) :
 ∃ h', zC N cs = some (AV.tuple [AV.agg zV, AV.int IntKind.i64 (Int.ofNat 3)], h') ∧ [0].map h'.get = [Blk.cells true 5 N cs] :=
 call_runZ (q := qNs [15,0,6,0,0,0,0,6,0,8,1,1,1,1,1,0,11,0,6,0,0,0,0,6,0,11,0,6,0,0,0,0,6,0,11,1,1,1,1,5,1,1,1,0,0,0,0,21]) (c := (cnT :: cnT :: cnT :: cnT :: cnT :: cnT :: cnF :: cnF :: cnF :: cnF :: cnF :: cnT :: cnT :: cnT :: cnT :: cnT :: cnT :: cnT :: cnT :: cnT :: cnT :: cnT :: cnT :: cnT :: cnF :: cnF :: cnF :: cnF :: cnF :: cnF :: cnF :: cnT :: cnT :: cnT :: cnT :: [])) (by kernel_rfl) ⟨h0, h0, h1, h2, h3, h0, h4, h5, h6, h7, h8, h9, h0, h0, h1, h2, h10, h0, h0, h0, h1, h2, h11, h0, h12, h12, h12, h12, h12, h12, h12, h13, h13, h13, h13, trivial⟩
theorem Pa_ffffffft (N : Nat) (cs : List AV) (h0 : (AV.plainL cs) = true) (h1 : (u8L cs) = true) (h2 : (cs.length.beq N) = true) (h3 : ((0 + N).ble N) = true) (h4 : (ieqB (Int.ofNat (zA N cs)) (Int.ofNat 1)) = false) (h5 : (ieqB (Int.ofNat (zA N cs)) (Int.ofNat 2)) = false) (h6 : (ieqB (Int.ofNat (zA N cs)) (Int.ofNat 3)) = false) (h7 : (ieqB (Int.ofNat (zA N cs)) (Int.ofNat 5)) = false) (h8 : (ieqB (Int.ofNat (zA N cs)) (Int.ofNat 6)) = false) (h9 : (ieqB (Int.ofNat (zA N cs)) (Int.ofNat 7)) = false) (h10 : (!(AV.bool (kept (true && Nat.ble 1 N))).boolOf) = false) (h11 : (iltB (Int.ofNat 0) (Int.ofNat (kept (tkL 1 N)))) = true) :
 ∃ h', zC N cs = some (AV.tuple [AV.agg zV, AV.int IntKind.i64 (Int.ofNat 3)], h') ∧ [0].map h'.get = [Blk.cells true 5 N cs] :=
 call_runZ (q := qNs [15,0,6,0,0,0,0,6,0,8,1,1,1,1,1,1,5,1,1,1,1,5,1,1,1,0,0,0,0,21]) (c := (cnT :: cnT :: cnT :: cnT :: cnT :: cnT :: cnF :: cnF :: cnF :: cnF :: cnF :: cnF :: cnF :: cnF :: cnF :: cnF :: cnF :: cnF :: cnF :: cnT :: cnT :: cnT :: cnT :: [])) (by kernel_rfl) ⟨h0, h0, h1, h2, h3, h0, h4, h5, h6, h7, h8, h9, h10, h10, h10, h10, h10, h10, h10, h11, h11, h11, h11, trivial⟩
theorem Pa_ffffftfft (N : Nat) (cs : List AV) (h0 : (AV.plainL cs) = true) (h1 : (u8L cs) = true) (h2 : (cs.length.beq N) = true) (h3 : ((0 + N).ble N) = true) (h4 : (ieqB (Int.ofNat (zA N cs)) (Int.ofNat 1)) = false) (h5 : (ieqB (Int.ofNat (zA N cs)) (Int.ofNat 2)) = false) (h6 : (ieqB (Int.ofNat (zA N cs)) (Int.ofNat 3)) = false) (h7 : (ieqB (Int.ofNat (zA N cs)) (Int.ofNat 5)) = false) (h8 : (ieqB (Int.ofNat (zA N cs)) (Int.ofNat 6)) = false) (h9 : (ieqB (Int.ofNat (zA N cs)) (Int.ofNat 7)) = true) (h10 : ((kept (tkO 1 0 N) + kept (tkL 1 N)).ble N) = true) (h11 : ((kept (tkO 1 (kept (tkO 1 0 N)) (kept (tkL 1 N))) + kept (tkL 1 (kept (tkL 1 N)))).ble N) = true) (h12 : (!(AV.bool (kept (kept (kept (true && Nat.ble 1 N) && Nat.ble 1 (kept (tkL 1 N))) && Nat.ble 1 (kept (tkL 1 (kept (tkL 1 N))))))).boolOf) = false) (h13 : (iltB (Int.ofNat 0) (Int.ofNat (kept (tkL 1 (kept (tkL 1 (kept (tkL 1 N)))))))) = false) (h14 : (!kept (rightB (Int.ofNat (zA N cs)) (AV.int IntKind.u8 (Int.ofNat (zB N cs))).intOf (AV.int IntKind.u8 (Int.ofNat (zH N cs))).intOf (Int.ofNat 0) (Int.ofNat 0) 0 0 [])) = true) :
 ∃ h', zC N cs = some (AV.tuple [AV.agg zV, AV.int IntKind.i64 (Int.ofNat 3)], h') ∧ [0].map h'.get = [Blk.cells true 5 N cs] :=
 call_runZ (q := qNs [15,0,6,0,0,0,0,6,0,8,1,1,1,1,1,0,11,0,6,0,0,0,0,6,0,11,0,6,0,0,0,0,6,0,11,1,1,1,1,5,1,1,1,1,17,1,10,1,1,0,20]) (c := (cnT :: cnT :: cnT :: cnT :: cnT :: cnT :: cnF :: cnF :: cnF :: cnF :: cnF :: cnT :: cnT :: cnT :: cnT :: cnT :: cnT :: cnT :: cnT :: cnT :: cnT :: cnT :: cnT :: cnT :: cnF :: cnF :: cnF :: cnF :: cnF :: cnF :: cnF :: cnF :: cnF :: cnF :: cnF :: cnT :: [])) (by kernel_rfl) ⟨h0, h0, h1, h2, h3, h0, h4, h5, h6, h7, h8, h9, h0, h0, h1, h2, h10, h0, h0, h0, h1, h2, h11, h0, h12, h12, h12, h12, h12, h12, h12, h13, h13, h13, h13, h14, trivial⟩
theorem Pa_ffffftfff (N : Nat) (cs : List AV) (h0 : (AV.plainL cs) = true) (h1 : (u8L cs) = true) (h2 : (cs.length.beq N) = true) (h3 : ((0 + N).ble N) = true) (h4 : (ieqB (Int.ofNat (zA N cs)) (Int.ofNat 1)) = false) (h5 : (ieqB (Int.ofNat (zA N cs)) (Int.ofNat 2)) = false) (h6 : (ieqB (Int.ofNat (zA N cs)) (Int.ofNat 3)) = false) (h7 : (ieqB (Int.ofNat (zA N cs)) (Int.ofNat 5)) = false) (h8 : (ieqB (Int.ofNat (zA N cs)) (Int.ofNat 6)) = false) (h9 : (ieqB (Int.ofNat (zA N cs)) (Int.ofNat 7)) = true) (h10 : ((kept (tkO 1 0 N) + kept (tkL 1 N)).ble N) = true) (h11 : ((kept (tkO 1 (kept (tkO 1 0 N)) (kept (tkL 1 N))) + kept (tkL 1 (kept (tkL 1 N)))).ble N) = true) (h12 : (!(AV.bool (kept (kept (kept (true && Nat.ble 1 N) && Nat.ble 1 (kept (tkL 1 N))) && Nat.ble 1 (kept (tkL 1 (kept (tkL 1 N))))))).boolOf) = false) (h13 : (iltB (Int.ofNat 0) (Int.ofNat (kept (tkL 1 (kept (tkL 1 (kept (tkL 1 N)))))))) = false) (h14 : (!kept (rightB (Int.ofNat (zA N cs)) (AV.int IntKind.u8 (Int.ofNat (zB N cs))).intOf (AV.int IntKind.u8 (Int.ofNat (zH N cs))).intOf (Int.ofNat 0) (Int.ofNat 0) 0 0 [])) = false) :
 ∃ h', zC N cs = some (AV.tuple [AV.agg [AV.int IntKind.u8 (Int.ofNat (zA N cs)), AV.int IntKind.u8 (AV.int IntKind.u8 (AV.int IntKind.u8 (Int.ofNat (zB N cs))).intOf).intOf, AV.int IntKind.u8 (AV.int IntKind.u8 (AV.int IntKind.u8 (Int.ofNat (zH N cs))).intOf).intOf, AV.int IntKind.u32 (Int.ofNat 0), AV.int IntKind.u8 (Int.ofNat 0), AV.slice none 0 (some 0), AV.slice none 0 (some 0)], AV.int IntKind.i64 (Int.ofNat 0)], h') ∧ [0].map h'.get = [Blk.cells true 5 N cs] :=
 call_runZ (q := qNs [15,0,6,0,0,0,0,6,0,8,1,1,1,1,1,0,11,0,6,0,0,0,0,6,0,11,0,6,0,0,0,0,6,0,11,1,1,1,1,5,1,1,1,1,17,1,10,1,1,1,35]) (c := (cnT :: cnT :: cnT :: cnT :: cnT :: cnT :: cnF :: cnF :: cnF :: cnF :: cnF :: cnT :: cnT :: cnT :: cnT :: cnT :: cnT :: cnT :: cnT :: cnT :: cnT :: cnT :: cnT :: cnT :: cnF :: cnF :: cnF :: cnF :: cnF :: cnF :: cnF :: cnF :: cnF :: cnF :: cnF :: cnF :: [])) (by kernel_rfl) ⟨h0, h0, h1, h2, h3, h0, h4, h5, h6, h7, h8, h9, h0, h0, h1, h2, h10, h0, h0, h0, h1, h2, h11, h0, h12, h12, h12, h12, h12, h12, h12, h13, h13, h13, h13, h14, trivial⟩
theorem Pa_fffffffft (N : Nat) (cs : List AV) (h0 : (AV.plainL cs) = true) (h1 : (u8L cs) = true) (h2 : (cs.length.beq N) = true) (h3 : ((0 + N).ble N) = true) (h4 : (ieqB (Int.ofNat (zA N cs)) (Int.ofNat 1)) = false) (h5 : (ieqB (Int.ofNat (zA N cs)) (Int.ofNat 2)) = false) (h6 : (ieqB (Int.ofNat (zA N cs)) (Int.ofNat 3)) = false) (h7 : (ieqB (Int.ofNat (zA N cs)) (Int.ofNat 5)) = false) (h8 : (ieqB (Int.ofNat (zA N cs)) (Int.ofNat 6)) = false) (h9 : (ieqB (Int.ofNat (zA N cs)) (Int.ofNat 7)) = false) (h10 : (!(AV.bool (kept (true && Nat.ble 1 N))).boolOf) = false) (h11 : (iltB (Int.ofNat 0) (Int.ofNat (kept (tkL 1 N)))) = false) (h12 : (!kept (rightB (Int.ofNat (zA N cs)) (Int.ofNat 0) (Int.ofNat 0) (Int.ofNat 0) (Int.ofNat 0) 0 0 [])) = true) :
 ∃ h', zC N cs = some (AV.tuple [AV.agg zV, AV.int IntKind.i64 (Int.ofNat 3)], h') ∧ [0].map h'.get = [Blk.cells true 5 N cs] :=
 call_runZ (q := qNs [15,0,6,0,0,0,0,6,0,8,1,1,1,1,1,1,5,1,1,1,1,5,1,1,1,1,17,1,10,1,1,0,20]) (c := (cnT :: cnT :: cnT :: cnT :: cnT :: cnT :: cnF :: cnF :: cnF :: cnF :: cnF :: cnF :: cnF :: cnF :: cnF :: cnF :: cnF :: cnF :: cnF :: cnF :: cnF :: cnF :: cnF :: cnT :: [])) (by kernel_rfl) ⟨h0, h0, h1, h2, h3, h0, h4, h5, h6, h7, h8, h9, h10, h10, h10, h10, h10, h10, h10, h11, h11, h11, h11, h12, trivial⟩
theorem Pa_fffffffff (N : Nat) (cs : List AV) (h0 : (AV.plainL cs) = true) (h1 : (u8L cs) = true) (h2 : (cs.length.beq N) = true) (h3 : ((0 + N).ble N) = true) (h4 : (ieqB (Int.ofNat (zA N cs)) (Int.ofNat 1)) = false) (h5 : (ieqB (Int.ofNat (zA N cs)) (Int.ofNat 2)) = false) (h6 : (ieqB (Int.ofNat (zA N cs)) (Int.ofNat 3)) = false) (h7 : (ieqB (Int.ofNat (zA N cs)) (Int.ofNat 5)) = false) (h8 : (ieqB (Int.ofNat (zA N cs)) (Int.ofNat 6)) = false) (h9 : (ieqB (Int.ofNat (zA N cs)) (Int.ofNat 7)) = false) (h10 : (!(AV.bool (kept (true && Nat.ble 1 N))).boolOf) = false) (h11 : (iltB (Int.ofNat 0) (Int.ofNat (kept (tkL 1 N)))) = false) (h12 : (!kept (rightB (Int.ofNat (zA N cs)) (Int.ofNat 0) (Int.ofNat 0) (Int.ofNat 0) (Int.ofNat 0) 0 0 [])) = false) :
 ∃ h', zC N cs = some (AV.tuple [AV.agg [AV.int IntKind.u8 (Int.ofNat (zA N cs)), AV.int IntKind.u8 (Int.ofNat 0), AV.int IntKind.u8 (Int.ofNat 0), AV.int IntKind.u32 (Int.ofNat 0), AV.int IntKind.u8 (Int.ofNat 0), AV.slice none 0 (some 0), AV.slice none 0 (some 0)], AV.int IntKind.i64 (Int.ofNat 0)], h') ∧ [0].map h'.get = [Blk.cells true 5 N cs] :=
 call_runZ (q := qNs [15,0,6,0,0,0,0,6,0,8,1,1,1,1,1,1,5,1,1,1,1,5,1,1,1,1,17,1,10,1,1,1,35]) (c := (cnT :: cnT :: cnT :: cnT :: cnT :: cnT :: cnF :: cnF :: cnF :: cnF :: cnF :: cnF :: cnF :: cnF :: cnF :: cnF :: cnF :: cnF :: cnF :: cnF :: cnF :: cnF :: cnF :: cnF :: [])) (by kernel_rfl) ⟨h0, h0, h1, h2, h3, h0, h4, h5, h6, h7, h8, h9, h10, h10, h10, h10, h10, h10, h10, h11, h11, h11, h11, h12, trivial⟩
def PEnd (w : List UInt8) (v : AV) : Prop :=
 ∃ (f : Nat) (v0 : AV) (h' : Heap) (c2 : List Bool), aCall C10q f (.fn 60) [.slice (some (0, 0)) w.length none] (mkL [.cells true 5 w.length (ofBytes w)]) = some (v0, h') ∧ zkQ (szOf C10q) [0] h' v0 = some (c2, v) ∧ allTrue c2 = true ∧ h'.get 0 = .cells true 5 w.length (ofBytes w)
theorem sz27 : szOf C10q 27 = 1 := by kernel_rfl
theorem sz36 : szOf C10q 36 = 1 := by kernel_rfl
theorem hdN_lt (r : List UInt8) : hdN r < 256 := by unfold hdN; exact (hdU r).toNat_lt
set_option maxHeartbeats 4000000 in
theorem par_1 (w : List UInt8) (hN : w.length ≤ 100000) (ho : hdN w = 1) : (parOK w = true → PEnd w (VGd w)) ∧ (parOK w = false → PEnd w VBd) := by
 have f0 : seg w 0 w.length = w := by unfold seg; rw [List.drop_zero, List.take_of_length_le (Nat.le_refl _)]
 have s1 : rsB 1 w <:+ w := rsB_suf 1 w
 have t1 := tk_suf 1 (List.suffix_refl w) rfl (off := 0) (by omega)
 have f1 := seg_suf s1
 have n1 := s1.length_le
 have o1 : ieqB (Int.ofNat (hdN w)) (Int.ofNat 1) = true := by rw [ho]; rfl
 have dr : True := trivial
 have s2 := (rsB_suf 4 (rsB 1 w)).trans s1
 have t2 := tk_suf 4 s1 rfl (off := w.length - (rsB 1 w).length) (by omega)
 have f2 := seg_suf s2
 have n2 := s2.length_le
 have t3 := tk_suf 1 s2 rfl (off := w.length - (rsB 4 (rsB 1 w)).length) (by omega)
 have b9 := hdN_lt (rsB 4 (rsB 1 w))
 have eS : parS w = ⟨(Nat.ble 1 w.length && Nat.ble 4 (rsB 1 w).length) && Nat.ble 1 (rsB 4 (rsB 1 w)).length, rsB 1 (rsB 4 (rsB 1 w)), 0, 0, numN (rsB 1 w), hdN (rsB 4 (rsB 1 w)), [], []⟩ := by unfold parS; simp only [if_pos ho]
 have eK : (parS w).k = ((Nat.ble 1 w.length && Nat.ble 4 (rsB 1 w).length) && Nat.ble 1 (rsB 4 (rsB 1 w)).length) := by rw [eS]
 have eR : (parS w).r = rsB 1 (rsB 4 (rsB 1 w)) := by rw [eS]
 cases hk : ((Nat.ble 1 w.length && Nat.ble 4 (rsB 1 w).length) && Nat.ble 1 (rsB 4 (rsB 1 w)).length : Bool) with
 | false =>
  have no : parOK w = false := by unfold parOK; rw [eK, hk]; rfl
  refine ⟨fun h => (by rw [no] at h; cases h), fun _ => ?_⟩
  have key := Pa_tt w.length (ofBytes w)
  iterate 8
   replace key := key (by
    (try simp only [PL, ZL, zC, zV, kept_eq, f0, t1, f1, t2, f2, dr, o1, t3, hk])
    first
     | done
     | with_reducible rfl
     | (rw [nble]; exact decide_eq_true (by omega))
     | (rw [nbeq]; exact decide_eq_true (by omega))
     | (rw [ileB_eq]; exact decide_eq_true (by simp only [Int.ofNat_eq_natCast]; omega)))
  obtain ⟨h', h, hb⟩ := key
  simp only [PL, ZL, zC, zV, kept_eq, f0, t1, f1, t2, f2, dr, o1, t3, List.map_cons, List.map_nil] at h hb
  injection hb with g0 _
  exact ⟨60, _, h', [], h, rfl, rfl, g0⟩
 | true =>
 by_cases hr : (rsB 1 (rsB 4 (rsB 1 w))).length = 0
 case neg =>
  have no : parOK w = false := by unfold parOK; rw [eR, show Nat.beq (rsB 1 (rsB 4 (rsB 1 w))).length 0 = false by rw [nbeq]; exact decide_eq_false hr, Bool.false_and, Bool.and_false]
  have l0 : iltB (Int.ofNat 0) (Int.ofNat (rsB 1 (rsB 4 (rsB 1 w))).length) = true := by rw [iltB_eq]; exact decide_eq_true (Int.ofNat_lt.2 (Nat.pos_of_ne_zero hr))
  refine ⟨fun h => (by rw [no] at h; cases h), fun _ => ?_⟩
  have key := Pa_tft w.length (ofBytes w)
  iterate 9
   replace key := key (by
    (try simp only [PL, ZL, zC, zV, kept_eq, f0, t1, f1, t2, f2, dr, o1, t3, hk, l0])
    first
     | done
     | with_reducible rfl
     | (rw [nble]; exact decide_eq_true (by omega))
     | (rw [nbeq]; exact decide_eq_true (by omega))
     | (rw [ileB_eq]; exact decide_eq_true (by simp only [Int.ofNat_eq_natCast]; omega)))
  obtain ⟨h', h, hb⟩ := key
  simp only [PL, ZL, zC, zV, kept_eq, f0, t1, f1, t2, f2, dr, o1, t3, List.map_cons, List.map_nil] at h hb
  injection hb with g0 _
  exact ⟨60, _, h', [], h, rfl, rfl, g0⟩
 have l0 : iltB (Int.ofNat 0) (Int.ofNat (rsB 1 (rsB 4 (rsB 1 w))).length) = false := by rw [iltB_eq, hr]; rfl
 have eP : parR w = rightB (Int.ofNat (hdN w)) (Int.ofNat 0) (Int.ofNat 0) (Int.ofNat (numN (rsB 1 w))) (Int.ofNat (hdN (rsB 4 (rsB 1 w)))) 0 0 [] := by unfold parR; rw [eS]; rfl
 have eO : parOK w = rightB (Int.ofNat (hdN w)) (Int.ofNat 0) (Int.ofNat 0) (Int.ofNat (numN (rsB 1 w))) (Int.ofNat (hdN (rsB 4 (rsB 1 w)))) 0 0 [] := by unfold parOK; rw [eK, eR, hk, hr, eP]; rfl
 cases hq : (rightB (Int.ofNat (hdN w)) (Int.ofNat 0) (Int.ofNat 0) (Int.ofNat (numN (rsB 1 w))) (Int.ofNat (hdN (rsB 4 (rsB 1 w)))) 0 0 []) with
 | false =>
  refine ⟨fun h => (by rw [eO, hq] at h; cases h), fun _ => ?_⟩
  have key := Pa_tfft w.length (ofBytes w)
  iterate 11
   replace key := key (by
    (try simp only [PL, ZL, zC, zV, kept_eq, f0, t1, f1, t2, f2, dr, o1, t3, hk, l0, hq])
    first
     | done
     | with_reducible rfl
     | (rw [nble]; exact decide_eq_true (by omega))
     | (rw [nbeq]; exact decide_eq_true (by omega))
     | (rw [ileB_eq]; exact decide_eq_true (by simp only [Int.ofNat_eq_natCast]; omega)))
  obtain ⟨h', h, hb⟩ := key
  simp only [PL, ZL, zC, zV, kept_eq, f0, t1, f1, t2, f2, dr, o1, t3, List.map_cons, List.map_nil] at h hb
  injection hb with g0 _
  exact ⟨60, _, h', [], h, rfl, rfl, g0⟩
 | true =>
  refine ⟨fun _ => ?_, fun h => (by rw [eO, hq] at h; cases h)⟩
  have ev : (VGd w) = (AV.tuple [.agg [.int .u8 (Int.ofNat (hdN w)), .int .u8 (Int.ofNat 0), .int .u8 (Int.ofNat 0), .int .u32 (Int.ofNat (numN (rsB 1 w))), .int .u8 (Int.ofNat (hdN (rsB 4 (rsB 1 w)))), .fsl true 0 [], .fsl true 0 []], .int .i64 (Int.ofNat 0)]) := by unfold VGd qSub qPl qFi qCt qA qD; rw [eS]; rfl
  rw [ev]
  have key := Pa_tfff w.length (ofBytes w)
  iterate 11
   replace key := key (by
    (try simp only [PL, ZL, zC, zV, kept_eq, f0, t1, f1, t2, f2, dr, o1, t3, hk, l0, hq])
    first
     | done
     | with_reducible rfl
     | (rw [nble]; exact decide_eq_true (by omega))
     | (rw [nbeq]; exact decide_eq_true (by omega))
     | (rw [ileB_eq]; exact decide_eq_true (by simp only [Int.ofNat_eq_natCast]; omega)))
  obtain ⟨h', h, hb⟩ := key
  simp only [PL, ZL, zC, zV, kept_eq, f0, t1, f1, t2, f2, dr, o1, t3, List.map_cons, List.map_nil] at h hb
  injection hb with g0 _
  exact ⟨60, _, h', [], h, rfl, rfl, g0⟩
set_option maxHeartbeats 4000000 in
theorem par_5 (w : List UInt8) (hN : w.length ≤ 100000) (ho : hdN w = 5) : (parOK w = true → PEnd w (VGd w)) ∧ (parOK w = false → PEnd w VBd) := by
 have f0 : seg w 0 w.length = w := by unfold seg; rw [List.drop_zero, List.take_of_length_le (Nat.le_refl _)]
 have s1 : rsB 1 w <:+ w := rsB_suf 1 w
 have t1 := tk_suf 1 (List.suffix_refl w) rfl (off := 0) (by omega)
 have f1 := seg_suf s1
 have n1 := s1.length_le
 have o1 : ieqB (Int.ofNat (hdN w)) (Int.ofNat 1) = false := by rw [ieqB_eq]; exact beq_eq_false_iff_ne.2 (fun h => by simp only [Int.ofNat_eq_natCast] at h; omega)
 have o2 : ieqB (Int.ofNat (hdN w)) (Int.ofNat 2) = false := by rw [ieqB_eq]; exact beq_eq_false_iff_ne.2 (fun h => by simp only [Int.ofNat_eq_natCast] at h; omega)
 have o3 : ieqB (Int.ofNat (hdN w)) (Int.ofNat 3) = false := by rw [ieqB_eq]; exact beq_eq_false_iff_ne.2 (fun h => by simp only [Int.ofNat_eq_natCast] at h; omega)
 have o5 : ieqB (Int.ofNat (hdN w)) (Int.ofNat 5) = true := by rw [ho]; rfl
 have dr : True := trivial
 have s2 := (rsB_suf 1 (rsB 1 w)).trans s1
 have t2 := tk_suf 1 s1 rfl (off := w.length - (rsB 1 w).length) (by omega)
 have f2 := seg_suf s2
 have n2 := s2.length_le
 have t3 := tk_suf 1 s2 rfl (off := w.length - (rsB 1 (rsB 1 w)).length) (by omega)
 have b8 := hdN_lt (rsB 1 w)
 have b9 := hdN_lt (rsB 1 (rsB 1 w))
 have eS : parS w = ⟨(Nat.ble 1 w.length && Nat.ble 1 (rsB 1 w).length) && Nat.ble 1 (rsB 1 (rsB 1 w)).length, rsB 1 (rsB 1 (rsB 1 w)), hdN (rsB 1 w), hdN (rsB 1 (rsB 1 w)), 0, 0, [], []⟩ := by unfold parS; simp only [if_neg (show hdN w ≠ 1 by omega), if_neg (show ¬(hdN w = 2 ∨ hdN w = 3) by omega), if_pos (show hdN w = 5 ∨ hdN w = 6 ∨ hdN w = 7 by omega)]
 have eK : (parS w).k = ((Nat.ble 1 w.length && Nat.ble 1 (rsB 1 w).length) && Nat.ble 1 (rsB 1 (rsB 1 w)).length) := by rw [eS]
 have eR : (parS w).r = rsB 1 (rsB 1 (rsB 1 w)) := by rw [eS]
 cases hk : ((Nat.ble 1 w.length && Nat.ble 1 (rsB 1 w).length) && Nat.ble 1 (rsB 1 (rsB 1 w)).length : Bool) with
 | false =>
  have no : parOK w = false := by unfold parOK; rw [eK, hk]; rfl
  refine ⟨fun h => (by rw [no] at h; cases h), fun _ => ?_⟩
  have key := Pa_ffftt w.length (ofBytes w)
  iterate 11
   replace key := key (by
    (try simp only [PL, ZL, zC, zV, kept_eq, f0, t1, f1, t2, f2, dr, o1, o2, o3, o5, t3, hk])
    first
     | done
     | with_reducible rfl
     | (rw [nble]; exact decide_eq_true (by omega))
     | (rw [nbeq]; exact decide_eq_true (by omega))
     | (rw [ileB_eq]; exact decide_eq_true (by simp only [Int.ofNat_eq_natCast]; omega)))
  obtain ⟨h', h, hb⟩ := key
  simp only [PL, ZL, zC, zV, kept_eq, f0, t1, f1, t2, f2, dr, o1, o2, o3, o5, t3, List.map_cons, List.map_nil] at h hb
  injection hb with g0 _
  exact ⟨60, _, h', [], h, rfl, rfl, g0⟩
 | true =>
 by_cases hr : (rsB 1 (rsB 1 (rsB 1 w))).length = 0
 case neg =>
  have no : parOK w = false := by unfold parOK; rw [eR, show Nat.beq (rsB 1 (rsB 1 (rsB 1 w))).length 0 = false by rw [nbeq]; exact decide_eq_false hr, Bool.false_and, Bool.and_false]
  have l0 : iltB (Int.ofNat 0) (Int.ofNat (rsB 1 (rsB 1 (rsB 1 w))).length) = true := by rw [iltB_eq]; exact decide_eq_true (Int.ofNat_lt.2 (Nat.pos_of_ne_zero hr))
  refine ⟨fun h => (by rw [no] at h; cases h), fun _ => ?_⟩
  have key := Pa_ffftft w.length (ofBytes w)
  iterate 12
   replace key := key (by
    (try simp only [PL, ZL, zC, zV, kept_eq, f0, t1, f1, t2, f2, dr, o1, o2, o3, o5, t3, hk, l0])
    first
     | done
     | with_reducible rfl
     | (rw [nble]; exact decide_eq_true (by omega))
     | (rw [nbeq]; exact decide_eq_true (by omega))
     | (rw [ileB_eq]; exact decide_eq_true (by simp only [Int.ofNat_eq_natCast]; omega)))
  obtain ⟨h', h, hb⟩ := key
  simp only [PL, ZL, zC, zV, kept_eq, f0, t1, f1, t2, f2, dr, o1, o2, o3, o5, t3, List.map_cons, List.map_nil] at h hb
  injection hb with g0 _
  exact ⟨60, _, h', [], h, rfl, rfl, g0⟩
 have l0 : iltB (Int.ofNat 0) (Int.ofNat (rsB 1 (rsB 1 (rsB 1 w))).length) = false := by rw [iltB_eq, hr]; rfl
 have eP : parR w = rightB (Int.ofNat (hdN w)) (Int.ofNat (hdN (rsB 1 w))) (Int.ofNat (hdN (rsB 1 (rsB 1 w)))) (Int.ofNat 0) (Int.ofNat 0) 0 0 [] := by unfold parR; rw [eS]; rfl
 have eO : parOK w = rightB (Int.ofNat (hdN w)) (Int.ofNat (hdN (rsB 1 w))) (Int.ofNat (hdN (rsB 1 (rsB 1 w)))) (Int.ofNat 0) (Int.ofNat 0) 0 0 [] := by unfold parOK; rw [eK, eR, hk, hr, eP]; rfl
 cases hq : (rightB (Int.ofNat (hdN w)) (Int.ofNat (hdN (rsB 1 w))) (Int.ofNat (hdN (rsB 1 (rsB 1 w)))) (Int.ofNat 0) (Int.ofNat 0) 0 0 []) with
 | false =>
  refine ⟨fun h => (by rw [eO, hq] at h; cases h), fun _ => ?_⟩
  have key := Pa_ffftfft w.length (ofBytes w)
  iterate 13
   replace key := key (by
    (try simp only [PL, ZL, zC, zV, kept_eq, f0, t1, f1, t2, f2, dr, o1, o2, o3, o5, t3, hk, l0, hq])
    first
     | done
     | with_reducible rfl
     | (rw [nble]; exact decide_eq_true (by omega))
     | (rw [nbeq]; exact decide_eq_true (by omega))
     | (rw [ileB_eq]; exact decide_eq_true (by simp only [Int.ofNat_eq_natCast]; omega)))
  obtain ⟨h', h, hb⟩ := key
  simp only [PL, ZL, zC, zV, kept_eq, f0, t1, f1, t2, f2, dr, o1, o2, o3, o5, t3, List.map_cons, List.map_nil] at h hb
  injection hb with g0 _
  exact ⟨60, _, h', [], h, rfl, rfl, g0⟩
 | true =>
  refine ⟨fun _ => ?_, fun h => (by rw [eO, hq] at h; cases h)⟩
  have ev : (VGd w) = (AV.tuple [.agg [.int .u8 (Int.ofNat (hdN w)), .int .u8 (Int.ofNat (hdN (rsB 1 w))), .int .u8 (Int.ofNat (hdN (rsB 1 (rsB 1 w)))), .int .u32 (Int.ofNat 0), .int .u8 (Int.ofNat 0), .fsl true 0 [], .fsl true 0 []], .int .i64 (Int.ofNat 0)]) := by unfold VGd qSub qPl qFi qCt qA qD; rw [eS]; rfl
  rw [ev]
  have key := Pa_ffftfff w.length (ofBytes w)
  iterate 13
   replace key := key (by
    (try simp only [PL, ZL, zC, zV, kept_eq, f0, t1, f1, t2, f2, dr, o1, o2, o3, o5, t3, hk, l0, hq])
    first
     | done
     | with_reducible rfl
     | (rw [nble]; exact decide_eq_true (by omega))
     | (rw [nbeq]; exact decide_eq_true (by omega))
     | (rw [ileB_eq]; exact decide_eq_true (by simp only [Int.ofNat_eq_natCast]; omega)))
  obtain ⟨h', h, hb⟩ := key
  simp only [PL, ZL, zC, zV, kept_eq, f0, t1, f1, t2, f2, dr, o1, o2, o3, o5, t3, List.map_cons, List.map_nil] at h hb
  injection hb with g0 _
  exact ⟨60, _, h', [], h, rfl, rfl, g0⟩
set_option maxHeartbeats 4000000 in
theorem par_6 (w : List UInt8) (hN : w.length ≤ 100000) (ho : hdN w = 6) : (parOK w = true → PEnd w (VGd w)) ∧ (parOK w = false → PEnd w VBd) := by
 have f0 : seg w 0 w.length = w := by unfold seg; rw [List.drop_zero, List.take_of_length_le (Nat.le_refl _)]
 have s1 : rsB 1 w <:+ w := rsB_suf 1 w
 have t1 := tk_suf 1 (List.suffix_refl w) rfl (off := 0) (by omega)
 have f1 := seg_suf s1
 have n1 := s1.length_le
 have o1 : ieqB (Int.ofNat (hdN w)) (Int.ofNat 1) = false := by rw [ieqB_eq]; exact beq_eq_false_iff_ne.2 (fun h => by simp only [Int.ofNat_eq_natCast] at h; omega)
 have o2 : ieqB (Int.ofNat (hdN w)) (Int.ofNat 2) = false := by rw [ieqB_eq]; exact beq_eq_false_iff_ne.2 (fun h => by simp only [Int.ofNat_eq_natCast] at h; omega)
 have o3 : ieqB (Int.ofNat (hdN w)) (Int.ofNat 3) = false := by rw [ieqB_eq]; exact beq_eq_false_iff_ne.2 (fun h => by simp only [Int.ofNat_eq_natCast] at h; omega)
 have o5 : ieqB (Int.ofNat (hdN w)) (Int.ofNat 5) = false := by rw [ieqB_eq]; exact beq_eq_false_iff_ne.2 (fun h => by simp only [Int.ofNat_eq_natCast] at h; omega)
 have o6 : ieqB (Int.ofNat (hdN w)) (Int.ofNat 6) = true := by rw [ho]; rfl
 have dr : True := trivial
 have s2 := (rsB_suf 1 (rsB 1 w)).trans s1
 have t2 := tk_suf 1 s1 rfl (off := w.length - (rsB 1 w).length) (by omega)
 have f2 := seg_suf s2
 have n2 := s2.length_le
 have t3 := tk_suf 1 s2 rfl (off := w.length - (rsB 1 (rsB 1 w)).length) (by omega)
 have b8 := hdN_lt (rsB 1 w)
 have b9 := hdN_lt (rsB 1 (rsB 1 w))
 have eS : parS w = ⟨(Nat.ble 1 w.length && Nat.ble 1 (rsB 1 w).length) && Nat.ble 1 (rsB 1 (rsB 1 w)).length, rsB 1 (rsB 1 (rsB 1 w)), hdN (rsB 1 w), hdN (rsB 1 (rsB 1 w)), 0, 0, [], []⟩ := by unfold parS; simp only [if_neg (show hdN w ≠ 1 by omega), if_neg (show ¬(hdN w = 2 ∨ hdN w = 3) by omega), if_pos (show hdN w = 5 ∨ hdN w = 6 ∨ hdN w = 7 by omega)]
 have eK : (parS w).k = ((Nat.ble 1 w.length && Nat.ble 1 (rsB 1 w).length) && Nat.ble 1 (rsB 1 (rsB 1 w)).length) := by rw [eS]
 have eR : (parS w).r = rsB 1 (rsB 1 (rsB 1 w)) := by rw [eS]
 cases hk : ((Nat.ble 1 w.length && Nat.ble 1 (rsB 1 w).length) && Nat.ble 1 (rsB 1 (rsB 1 w)).length : Bool) with
 | false =>
  have no : parOK w = false := by unfold parOK; rw [eK, hk]; rfl
  refine ⟨fun h => (by rw [no] at h; cases h), fun _ => ?_⟩
  have key := Pa_fffftt w.length (ofBytes w)
  iterate 12
   replace key := key (by
    (try simp only [PL, ZL, zC, zV, kept_eq, f0, t1, f1, t2, f2, dr, o1, o2, o3, o5, o6, t3, hk])
    first
     | done
     | with_reducible rfl
     | (rw [nble]; exact decide_eq_true (by omega))
     | (rw [nbeq]; exact decide_eq_true (by omega))
     | (rw [ileB_eq]; exact decide_eq_true (by simp only [Int.ofNat_eq_natCast]; omega)))
  obtain ⟨h', h, hb⟩ := key
  simp only [PL, ZL, zC, zV, kept_eq, f0, t1, f1, t2, f2, dr, o1, o2, o3, o5, o6, t3, List.map_cons, List.map_nil] at h hb
  injection hb with g0 _
  exact ⟨60, _, h', [], h, rfl, rfl, g0⟩
 | true =>
 by_cases hr : (rsB 1 (rsB 1 (rsB 1 w))).length = 0
 case neg =>
  have no : parOK w = false := by unfold parOK; rw [eR, show Nat.beq (rsB 1 (rsB 1 (rsB 1 w))).length 0 = false by rw [nbeq]; exact decide_eq_false hr, Bool.false_and, Bool.and_false]
  have l0 : iltB (Int.ofNat 0) (Int.ofNat (rsB 1 (rsB 1 (rsB 1 w))).length) = true := by rw [iltB_eq]; exact decide_eq_true (Int.ofNat_lt.2 (Nat.pos_of_ne_zero hr))
  refine ⟨fun h => (by rw [no] at h; cases h), fun _ => ?_⟩
  have key := Pa_fffftft w.length (ofBytes w)
  iterate 13
   replace key := key (by
    (try simp only [PL, ZL, zC, zV, kept_eq, f0, t1, f1, t2, f2, dr, o1, o2, o3, o5, o6, t3, hk, l0])
    first
     | done
     | with_reducible rfl
     | (rw [nble]; exact decide_eq_true (by omega))
     | (rw [nbeq]; exact decide_eq_true (by omega))
     | (rw [ileB_eq]; exact decide_eq_true (by simp only [Int.ofNat_eq_natCast]; omega)))
  obtain ⟨h', h, hb⟩ := key
  simp only [PL, ZL, zC, zV, kept_eq, f0, t1, f1, t2, f2, dr, o1, o2, o3, o5, o6, t3, List.map_cons, List.map_nil] at h hb
  injection hb with g0 _
  exact ⟨60, _, h', [], h, rfl, rfl, g0⟩
 have l0 : iltB (Int.ofNat 0) (Int.ofNat (rsB 1 (rsB 1 (rsB 1 w))).length) = false := by rw [iltB_eq, hr]; rfl
 have eP : parR w = rightB (Int.ofNat (hdN w)) (Int.ofNat (hdN (rsB 1 w))) (Int.ofNat (hdN (rsB 1 (rsB 1 w)))) (Int.ofNat 0) (Int.ofNat 0) 0 0 [] := by unfold parR; rw [eS]; rfl
 have eO : parOK w = rightB (Int.ofNat (hdN w)) (Int.ofNat (hdN (rsB 1 w))) (Int.ofNat (hdN (rsB 1 (rsB 1 w)))) (Int.ofNat 0) (Int.ofNat 0) 0 0 [] := by unfold parOK; rw [eK, eR, hk, hr, eP]; rfl
 cases hq : (rightB (Int.ofNat (hdN w)) (Int.ofNat (hdN (rsB 1 w))) (Int.ofNat (hdN (rsB 1 (rsB 1 w)))) (Int.ofNat 0) (Int.ofNat 0) 0 0 []) with
 | false =>
  refine ⟨fun h => (by rw [eO, hq] at h; cases h), fun _ => ?_⟩
  have key := Pa_fffftfft w.length (ofBytes w)
  iterate 14
   replace key := key (by
    (try simp only [PL, ZL, zC, zV, kept_eq, f0, t1, f1, t2, f2, dr, o1, o2, o3, o5, o6, t3, hk, l0, hq])
    first
     | done
     | with_reducible rfl
     | (rw [nble]; exact decide_eq_true (by omega))
     | (rw [nbeq]; exact decide_eq_true (by omega))
     | (rw [ileB_eq]; exact decide_eq_true (by simp only [Int.ofNat_eq_natCast]; omega)))
  obtain ⟨h', h, hb⟩ := key
  simp only [PL, ZL, zC, zV, kept_eq, f0, t1, f1, t2, f2, dr, o1, o2, o3, o5, o6, t3, List.map_cons, List.map_nil] at h hb
  injection hb with g0 _
  exact ⟨60, _, h', [], h, rfl, rfl, g0⟩
 | true =>
  refine ⟨fun _ => ?_, fun h => (by rw [eO, hq] at h; cases h)⟩
  have ev : (VGd w) = (AV.tuple [.agg [.int .u8 (Int.ofNat (hdN w)), .int .u8 (Int.ofNat (hdN (rsB 1 w))), .int .u8 (Int.ofNat (hdN (rsB 1 (rsB 1 w)))), .int .u32 (Int.ofNat 0), .int .u8 (Int.ofNat 0), .fsl true 0 [], .fsl true 0 []], .int .i64 (Int.ofNat 0)]) := by unfold VGd qSub qPl qFi qCt qA qD; rw [eS]; rfl
  rw [ev]
  have key := Pa_fffftfff w.length (ofBytes w)
  iterate 14
   replace key := key (by
    (try simp only [PL, ZL, zC, zV, kept_eq, f0, t1, f1, t2, f2, dr, o1, o2, o3, o5, o6, t3, hk, l0, hq])
    first
     | done
     | with_reducible rfl
     | (rw [nble]; exact decide_eq_true (by omega))
     | (rw [nbeq]; exact decide_eq_true (by omega))
     | (rw [ileB_eq]; exact decide_eq_true (by simp only [Int.ofNat_eq_natCast]; omega)))
  obtain ⟨h', h, hb⟩ := key
  simp only [PL, ZL, zC, zV, kept_eq, f0, t1, f1, t2, f2, dr, o1, o2, o3, o5, o6, t3, List.map_cons, List.map_nil] at h hb
  injection hb with g0 _
  exact ⟨60, _, h', [], h, rfl, rfl, g0⟩
set_option maxHeartbeats 4000000 in
theorem par_7 (w : List UInt8) (hN : w.length ≤ 100000) (ho : hdN w = 7) : (parOK w = true → PEnd w (VGd w)) ∧ (parOK w = false → PEnd w VBd) := by
 have f0 : seg w 0 w.length = w := by unfold seg; rw [List.drop_zero, List.take_of_length_le (Nat.le_refl _)]
 have s1 : rsB 1 w <:+ w := rsB_suf 1 w
 have t1 := tk_suf 1 (List.suffix_refl w) rfl (off := 0) (by omega)
 have f1 := seg_suf s1
 have n1 := s1.length_le
 have o1 : ieqB (Int.ofNat (hdN w)) (Int.ofNat 1) = false := by rw [ieqB_eq]; exact beq_eq_false_iff_ne.2 (fun h => by simp only [Int.ofNat_eq_natCast] at h; omega)
 have o2 : ieqB (Int.ofNat (hdN w)) (Int.ofNat 2) = false := by rw [ieqB_eq]; exact beq_eq_false_iff_ne.2 (fun h => by simp only [Int.ofNat_eq_natCast] at h; omega)
 have o3 : ieqB (Int.ofNat (hdN w)) (Int.ofNat 3) = false := by rw [ieqB_eq]; exact beq_eq_false_iff_ne.2 (fun h => by simp only [Int.ofNat_eq_natCast] at h; omega)
 have o5 : ieqB (Int.ofNat (hdN w)) (Int.ofNat 5) = false := by rw [ieqB_eq]; exact beq_eq_false_iff_ne.2 (fun h => by simp only [Int.ofNat_eq_natCast] at h; omega)
 have o6 : ieqB (Int.ofNat (hdN w)) (Int.ofNat 6) = false := by rw [ieqB_eq]; exact beq_eq_false_iff_ne.2 (fun h => by simp only [Int.ofNat_eq_natCast] at h; omega)
 have o7 : ieqB (Int.ofNat (hdN w)) (Int.ofNat 7) = true := by rw [ho]; rfl
 have dr : True := trivial
 have s2 := (rsB_suf 1 (rsB 1 w)).trans s1
 have t2 := tk_suf 1 s1 rfl (off := w.length - (rsB 1 w).length) (by omega)
 have f2 := seg_suf s2
 have n2 := s2.length_le
 have t3 := tk_suf 1 s2 rfl (off := w.length - (rsB 1 (rsB 1 w)).length) (by omega)
 have b8 := hdN_lt (rsB 1 w)
 have b9 := hdN_lt (rsB 1 (rsB 1 w))
 have eS : parS w = ⟨(Nat.ble 1 w.length && Nat.ble 1 (rsB 1 w).length) && Nat.ble 1 (rsB 1 (rsB 1 w)).length, rsB 1 (rsB 1 (rsB 1 w)), hdN (rsB 1 w), hdN (rsB 1 (rsB 1 w)), 0, 0, [], []⟩ := by unfold parS; simp only [if_neg (show hdN w ≠ 1 by omega), if_neg (show ¬(hdN w = 2 ∨ hdN w = 3) by omega), if_pos (show hdN w = 5 ∨ hdN w = 6 ∨ hdN w = 7 by omega)]
 have eK : (parS w).k = ((Nat.ble 1 w.length && Nat.ble 1 (rsB 1 w).length) && Nat.ble 1 (rsB 1 (rsB 1 w)).length) := by rw [eS]
 have eR : (parS w).r = rsB 1 (rsB 1 (rsB 1 w)) := by rw [eS]
 cases hk : ((Nat.ble 1 w.length && Nat.ble 1 (rsB 1 w).length) && Nat.ble 1 (rsB 1 (rsB 1 w)).length : Bool) with
 | false =>
  have no : parOK w = false := by unfold parOK; rw [eK, hk]; rfl
  refine ⟨fun h => (by rw [no] at h; cases h), fun _ => ?_⟩
  have key := Pa_ffffftt w.length (ofBytes w)
  iterate 13
   replace key := key (by
    (try simp only [PL, ZL, zC, zV, kept_eq, f0, t1, f1, t2, f2, dr, o1, o2, o3, o5, o6, o7, t3, hk])
    first
     | done
     | with_reducible rfl
     | (rw [nble]; exact decide_eq_true (by omega))
     | (rw [nbeq]; exact decide_eq_true (by omega))
     | (rw [ileB_eq]; exact decide_eq_true (by simp only [Int.ofNat_eq_natCast]; omega)))
  obtain ⟨h', h, hb⟩ := key
  simp only [PL, ZL, zC, zV, kept_eq, f0, t1, f1, t2, f2, dr, o1, o2, o3, o5, o6, o7, t3, List.map_cons, List.map_nil] at h hb
  injection hb with g0 _
  exact ⟨60, _, h', [], h, rfl, rfl, g0⟩
 | true =>
 by_cases hr : (rsB 1 (rsB 1 (rsB 1 w))).length = 0
 case neg =>
  have no : parOK w = false := by unfold parOK; rw [eR, show Nat.beq (rsB 1 (rsB 1 (rsB 1 w))).length 0 = false by rw [nbeq]; exact decide_eq_false hr, Bool.false_and, Bool.and_false]
  have l0 : iltB (Int.ofNat 0) (Int.ofNat (rsB 1 (rsB 1 (rsB 1 w))).length) = true := by rw [iltB_eq]; exact decide_eq_true (Int.ofNat_lt.2 (Nat.pos_of_ne_zero hr))
  refine ⟨fun h => (by rw [no] at h; cases h), fun _ => ?_⟩
  have key := Pa_ffffftft w.length (ofBytes w)
  iterate 14
   replace key := key (by
    (try simp only [PL, ZL, zC, zV, kept_eq, f0, t1, f1, t2, f2, dr, o1, o2, o3, o5, o6, o7, t3, hk, l0])
    first
     | done
     | with_reducible rfl
     | (rw [nble]; exact decide_eq_true (by omega))
     | (rw [nbeq]; exact decide_eq_true (by omega))
     | (rw [ileB_eq]; exact decide_eq_true (by simp only [Int.ofNat_eq_natCast]; omega)))
  obtain ⟨h', h, hb⟩ := key
  simp only [PL, ZL, zC, zV, kept_eq, f0, t1, f1, t2, f2, dr, o1, o2, o3, o5, o6, o7, t3, List.map_cons, List.map_nil] at h hb
  injection hb with g0 _
  exact ⟨60, _, h', [], h, rfl, rfl, g0⟩
 have l0 : iltB (Int.ofNat 0) (Int.ofNat (rsB 1 (rsB 1 (rsB 1 w))).length) = false := by rw [iltB_eq, hr]; rfl
 have eP : parR w = rightB (Int.ofNat (hdN w)) (Int.ofNat (hdN (rsB 1 w))) (Int.ofNat (hdN (rsB 1 (rsB 1 w)))) (Int.ofNat 0) (Int.ofNat 0) 0 0 [] := by unfold parR; rw [eS]; rfl
 have eO : parOK w = rightB (Int.ofNat (hdN w)) (Int.ofNat (hdN (rsB 1 w))) (Int.ofNat (hdN (rsB 1 (rsB 1 w)))) (Int.ofNat 0) (Int.ofNat 0) 0 0 [] := by unfold parOK; rw [eK, eR, hk, hr, eP]; rfl
 cases hq : (rightB (Int.ofNat (hdN w)) (Int.ofNat (hdN (rsB 1 w))) (Int.ofNat (hdN (rsB 1 (rsB 1 w)))) (Int.ofNat 0) (Int.ofNat 0) 0 0 []) with
 | false =>
  refine ⟨fun h => (by rw [eO, hq] at h; cases h), fun _ => ?_⟩
  have key := Pa_ffffftfft w.length (ofBytes w)
  iterate 15
   replace key := key (by
    (try simp only [PL, ZL, zC, zV, kept_eq, f0, t1, f1, t2, f2, dr, o1, o2, o3, o5, o6, o7, t3, hk, l0, hq])
    first
     | done
     | with_reducible rfl
     | (rw [nble]; exact decide_eq_true (by omega))
     | (rw [nbeq]; exact decide_eq_true (by omega))
     | (rw [ileB_eq]; exact decide_eq_true (by simp only [Int.ofNat_eq_natCast]; omega)))
  obtain ⟨h', h, hb⟩ := key
  simp only [PL, ZL, zC, zV, kept_eq, f0, t1, f1, t2, f2, dr, o1, o2, o3, o5, o6, o7, t3, List.map_cons, List.map_nil] at h hb
  injection hb with g0 _
  exact ⟨60, _, h', [], h, rfl, rfl, g0⟩
 | true =>
  refine ⟨fun _ => ?_, fun h => (by rw [eO, hq] at h; cases h)⟩
  have ev : (VGd w) = (AV.tuple [.agg [.int .u8 (Int.ofNat (hdN w)), .int .u8 (Int.ofNat (hdN (rsB 1 w))), .int .u8 (Int.ofNat (hdN (rsB 1 (rsB 1 w)))), .int .u32 (Int.ofNat 0), .int .u8 (Int.ofNat 0), .fsl true 0 [], .fsl true 0 []], .int .i64 (Int.ofNat 0)]) := by unfold VGd qSub qPl qFi qCt qA qD; rw [eS]; rfl
  rw [ev]
  have key := Pa_ffffftfff w.length (ofBytes w)
  iterate 15
   replace key := key (by
    (try simp only [PL, ZL, zC, zV, kept_eq, f0, t1, f1, t2, f2, dr, o1, o2, o3, o5, o6, o7, t3, hk, l0, hq])
    first
     | done
     | with_reducible rfl
     | (rw [nble]; exact decide_eq_true (by omega))
     | (rw [nbeq]; exact decide_eq_true (by omega))
     | (rw [ileB_eq]; exact decide_eq_true (by simp only [Int.ofNat_eq_natCast]; omega)))
  obtain ⟨h', h, hb⟩ := key
  simp only [PL, ZL, zC, zV, kept_eq, f0, t1, f1, t2, f2, dr, o1, o2, o3, o5, o6, o7, t3, List.map_cons, List.map_nil] at h hb
  injection hb with g0 _
  exact ⟨60, _, h', [], h, rfl, rfl, g0⟩
set_option maxHeartbeats 4000000 in
theorem par_0 (w : List UInt8) (hN : w.length ≤ 100000) (ho : hdN w ≠ 1 ∧ hdN w ≠ 2 ∧ hdN w ≠ 3 ∧ hdN w ≠ 5 ∧ hdN w ≠ 6 ∧ hdN w ≠ 7) : (parOK w = true → PEnd w (VGd w)) ∧ (parOK w = false → PEnd w VBd) := by
 have f0 : seg w 0 w.length = w := by unfold seg; rw [List.drop_zero, List.take_of_length_le (Nat.le_refl _)]
 have s1 : rsB 1 w <:+ w := rsB_suf 1 w
 have t1 := tk_suf 1 (List.suffix_refl w) rfl (off := 0) (by omega)
 have f1 := seg_suf s1
 have n1 := s1.length_le
 have o1 : ieqB (Int.ofNat (hdN w)) (Int.ofNat 1) = false := by rw [ieqB_eq]; exact beq_eq_false_iff_ne.2 (fun h => by simp only [Int.ofNat_eq_natCast] at h; omega)
 have o2 : ieqB (Int.ofNat (hdN w)) (Int.ofNat 2) = false := by rw [ieqB_eq]; exact beq_eq_false_iff_ne.2 (fun h => by simp only [Int.ofNat_eq_natCast] at h; omega)
 have o3 : ieqB (Int.ofNat (hdN w)) (Int.ofNat 3) = false := by rw [ieqB_eq]; exact beq_eq_false_iff_ne.2 (fun h => by simp only [Int.ofNat_eq_natCast] at h; omega)
 have o5 : ieqB (Int.ofNat (hdN w)) (Int.ofNat 5) = false := by rw [ieqB_eq]; exact beq_eq_false_iff_ne.2 (fun h => by simp only [Int.ofNat_eq_natCast] at h; omega)
 have o6 : ieqB (Int.ofNat (hdN w)) (Int.ofNat 6) = false := by rw [ieqB_eq]; exact beq_eq_false_iff_ne.2 (fun h => by simp only [Int.ofNat_eq_natCast] at h; omega)
 have o7 : ieqB (Int.ofNat (hdN w)) (Int.ofNat 7) = false := by rw [ieqB_eq]; exact beq_eq_false_iff_ne.2 (fun h => by simp only [Int.ofNat_eq_natCast] at h; omega)
 have dr : True := trivial
 have t2 : True ∧ True := ⟨trivial, trivial⟩
 have f2 : True := trivial
 have eS : parS w = ⟨Nat.ble 1 w.length, rsB 1 w, 0, 0, 0, 0, [], []⟩ := by unfold parS; simp only [if_neg (show hdN w ≠ 1 by omega), if_neg (show ¬(hdN w = 2 ∨ hdN w = 3) by omega), if_neg (show ¬(hdN w = 5 ∨ hdN w = 6 ∨ hdN w = 7) by omega)]
 have eK : (parS w).k = (Nat.ble 1 w.length) := by rw [eS]
 have eR : (parS w).r = rsB 1 w := by rw [eS]
 cases hk : (Nat.ble 1 w.length : Bool) with
 | false =>
  have no : parOK w = false := by unfold parOK; rw [eK, hk]; rfl
  refine ⟨fun h => (by rw [no] at h; cases h), fun _ => ?_⟩
  have key := Pa_fffffft w.length (ofBytes w)
  iterate 11
   replace key := key (by
    (try simp only [PL, ZL, zC, zV, kept_eq, f0, t1, f1, t2, f2, dr, o1, o2, o3, o5, o6, o7, hk])
    first
     | done
     | with_reducible rfl
     | (rw [nble]; exact decide_eq_true (by omega))
     | (rw [nbeq]; exact decide_eq_true (by omega))
     | (rw [ileB_eq]; exact decide_eq_true (by simp only [Int.ofNat_eq_natCast]; omega)))
  obtain ⟨h', h, hb⟩ := key
  simp only [PL, ZL, zC, zV, kept_eq, f0, t1, f1, t2, f2, dr, o1, o2, o3, o5, o6, o7, List.map_cons, List.map_nil] at h hb
  injection hb with g0 _
  exact ⟨60, _, h', [], h, rfl, rfl, g0⟩
 | true =>
 by_cases hr : (rsB 1 w).length = 0
 case neg =>
  have no : parOK w = false := by unfold parOK; rw [eR, show Nat.beq (rsB 1 w).length 0 = false by rw [nbeq]; exact decide_eq_false hr, Bool.false_and, Bool.and_false]
  have l0 : iltB (Int.ofNat 0) (Int.ofNat (rsB 1 w).length) = true := by rw [iltB_eq]; exact decide_eq_true (Int.ofNat_lt.2 (Nat.pos_of_ne_zero hr))
  refine ⟨fun h => (by rw [no] at h; cases h), fun _ => ?_⟩
  have key := Pa_ffffffft w.length (ofBytes w)
  iterate 12
   replace key := key (by
    (try simp only [PL, ZL, zC, zV, kept_eq, f0, t1, f1, t2, f2, dr, o1, o2, o3, o5, o6, o7, hk, l0])
    first
     | done
     | with_reducible rfl
     | (rw [nble]; exact decide_eq_true (by omega))
     | (rw [nbeq]; exact decide_eq_true (by omega))
     | (rw [ileB_eq]; exact decide_eq_true (by simp only [Int.ofNat_eq_natCast]; omega)))
  obtain ⟨h', h, hb⟩ := key
  simp only [PL, ZL, zC, zV, kept_eq, f0, t1, f1, t2, f2, dr, o1, o2, o3, o5, o6, o7, List.map_cons, List.map_nil] at h hb
  injection hb with g0 _
  exact ⟨60, _, h', [], h, rfl, rfl, g0⟩
 have l0 : iltB (Int.ofNat 0) (Int.ofNat (rsB 1 w).length) = false := by rw [iltB_eq, hr]; rfl
 have eP : parR w = rightB (Int.ofNat (hdN w)) (Int.ofNat 0) (Int.ofNat 0) (Int.ofNat 0) (Int.ofNat 0) 0 0 [] := by unfold parR; rw [eS]; rfl
 have eO : parOK w = rightB (Int.ofNat (hdN w)) (Int.ofNat 0) (Int.ofNat 0) (Int.ofNat 0) (Int.ofNat 0) 0 0 [] := by unfold parOK; rw [eK, eR, hk, hr, eP]; rfl
 cases hq : (rightB (Int.ofNat (hdN w)) (Int.ofNat 0) (Int.ofNat 0) (Int.ofNat 0) (Int.ofNat 0) 0 0 []) with
 | false =>
  refine ⟨fun h => (by rw [eO, hq] at h; cases h), fun _ => ?_⟩
  have key := Pa_fffffffft w.length (ofBytes w)
  iterate 13
   replace key := key (by
    (try simp only [PL, ZL, zC, zV, kept_eq, f0, t1, f1, t2, f2, dr, o1, o2, o3, o5, o6, o7, hk, l0, hq])
    first
     | done
     | with_reducible rfl
     | (rw [nble]; exact decide_eq_true (by omega))
     | (rw [nbeq]; exact decide_eq_true (by omega))
     | (rw [ileB_eq]; exact decide_eq_true (by simp only [Int.ofNat_eq_natCast]; omega)))
  obtain ⟨h', h, hb⟩ := key
  simp only [PL, ZL, zC, zV, kept_eq, f0, t1, f1, t2, f2, dr, o1, o2, o3, o5, o6, o7, List.map_cons, List.map_nil] at h hb
  injection hb with g0 _
  exact ⟨60, _, h', [], h, rfl, rfl, g0⟩
 | true =>
  refine ⟨fun _ => ?_, fun h => (by rw [eO, hq] at h; cases h)⟩
  have ev : (VGd w) = (AV.tuple [.agg [.int .u8 (Int.ofNat (hdN w)), .int .u8 (Int.ofNat 0), .int .u8 (Int.ofNat 0), .int .u32 (Int.ofNat 0), .int .u8 (Int.ofNat 0), .fsl true 0 [], .fsl true 0 []], .int .i64 (Int.ofNat 0)]) := by unfold VGd qSub qPl qFi qCt qA qD; rw [eS]; rfl
  rw [ev]
  have key := Pa_fffffffff w.length (ofBytes w)
  iterate 13
   replace key := key (by
    (try simp only [PL, ZL, zC, zV, kept_eq, f0, t1, f1, t2, f2, dr, o1, o2, o3, o5, o6, o7, hk, l0, hq])
    first
     | done
     | with_reducible rfl
     | (rw [nble]; exact decide_eq_true (by omega))
     | (rw [nbeq]; exact decide_eq_true (by omega))
     | (rw [ileB_eq]; exact decide_eq_true (by simp only [Int.ofNat_eq_natCast]; omega)))
  obtain ⟨h', h, hb⟩ := key
  simp only [PL, ZL, zC, zV, kept_eq, f0, t1, f1, t2, f2, dr, o1, o2, o3, o5, o6, o7, List.map_cons, List.map_nil] at h hb
  injection hb with g0 _
  exact ⟨60, _, h', [], h, rfl, rfl, g0⟩
set_option maxHeartbeats 4000000 in
theorem par_2z (w : List UInt8) (hN : w.length ≤ 100000) (ho : hdN w = 2) (hm : hdN (rsB 1 w) = 0) : (parOK w = true → PEnd w (VGd w)) ∧ (parOK w = false → PEnd w VBd) := by
 have f0 : seg w 0 w.length = w := by unfold seg; rw [List.drop_zero, List.take_of_length_le (Nat.le_refl _)]
 have s1 : rsB 1 w <:+ w := rsB_suf 1 w
 have t1 := tk_suf 1 (List.suffix_refl w) rfl (off := 0) (by omega)
 have f1 := seg_suf s1
 have n1 := s1.length_le
 have o1 : ieqB (Int.ofNat (hdN w)) (Int.ofNat 1) = false := by rw [ieqB_eq]; exact beq_eq_false_iff_ne.2 (fun h => by simp only [Int.ofNat_eq_natCast] at h; omega)
 have o2 : ieqB (Int.ofNat (hdN w)) (Int.ofNat 2) = true := by rw [ho]; rfl
 have s2 := (rsB_suf 1 (rsB 1 w)).trans s1
 have t2 := tk_suf 1 s1 rfl (off := w.length - (rsB 1 w).length) (by omega)
 have f2 := seg_suf s2
 have n2 := s2.length_le
 have dr : List.drop (w.length - (rsB 1 (rsB 1 w)).length) w = rsB 1 (rsB 1 w) := by
  obtain ⟨t, ht⟩ := s2
  have hl : w.length - (rsB 1 (rsB 1 w)).length = t.length := by
   have := congrArg List.length ht
   rw [List.length_append] at this; omega
  rw [hl]
  conv => lhs; rw [← ht]
  exact List.drop_left
 have hm0 : Nat.beq (hdN (rsB 1 w)) 0 = true := by rw [hm]; rfl
 have eS : parS w = ⟨Nat.ble 1 w.length && Nat.ble 1 (rsB 1 w).length, rsB 1 (rsB 1 w), 0, 0, 0, 0, [], []⟩ := by
  unfold parS; simp only [if_neg (show hdN w ≠ 1 by omega), if_pos (show hdN w = 2 ∨ hdN w = 3 by omega), hm]; rfl
 have eK : (parS w).k = (Nat.ble 1 w.length && Nat.ble 1 (rsB 1 w).length) := by rw [eS]
 have eR : (parS w).r = rsB 1 (rsB 1 w) := by rw [eS]
 cases hk : (Nat.ble 1 w.length && Nat.ble 1 (rsB 1 w).length : Bool) with
 | false =>
  have no : parOK w = false := by unfold parOK; rw [eK, hk]; rfl
  refine ⟨fun h => (by rw [no] at h; cases h), fun _ => ?_⟩
  have key := Pa_fttt w.length (ofBytes w)
  iterate 9
   replace key := key (by
    (try simp only [PL, ZL, zC, zV, kept_eq, f0, t1, f1, t2, f2, dr, o1, o2, hm0, hk])
    first
     | done
     | with_reducible rfl
     | (rw [nble]; exact decide_eq_true (by omega))
     | (rw [nbeq]; exact decide_eq_true (by omega))
     | (rw [ileB_eq]; exact decide_eq_true (by simp only [Int.ofNat_eq_natCast]; omega)))
  obtain ⟨h', h, hb⟩ := key
  simp only [PL, ZL, zC, zV, kept_eq, f0, t1, f1, t2, f2, dr, o1, o2, hm0, List.map_cons, List.map_nil] at h hb
  injection hb with g0 _
  exact ⟨60, _, h', [], h, rfl, rfl, g0⟩
 | true =>
 by_cases hr : (rsB 1 (rsB 1 w)).length = 0
 case neg =>
  have no : parOK w = false := by unfold parOK; rw [eR, show Nat.beq (rsB 1 (rsB 1 w)).length 0 = false by rw [nbeq]; exact decide_eq_false hr, Bool.false_and, Bool.and_false]
  have l0 : iltB (Int.ofNat 0) (Int.ofNat (rsB 1 (rsB 1 w)).length) = true := by rw [iltB_eq]; exact decide_eq_true (Int.ofNat_lt.2 (Nat.pos_of_ne_zero hr))
  refine ⟨fun h => (by rw [no] at h; cases h), fun _ => ?_⟩
  have key := Pa_fttft w.length (ofBytes w)
  iterate 10
   replace key := key (by
    (try simp only [PL, ZL, zC, zV, kept_eq, f0, t1, f1, t2, f2, dr, o1, o2, hm0, hk, l0])
    first
     | done
     | with_reducible rfl
     | (rw [nble]; exact decide_eq_true (by omega))
     | (rw [nbeq]; exact decide_eq_true (by omega))
     | (rw [ileB_eq]; exact decide_eq_true (by simp only [Int.ofNat_eq_natCast]; omega)))
  obtain ⟨h', h, hb⟩ := key
  simp only [PL, ZL, zC, zV, kept_eq, f0, t1, f1, t2, f2, dr, o1, o2, hm0, List.map_cons, List.map_nil] at h hb
  injection hb with g0 _
  exact ⟨60, _, h', [], h, rfl, rfl, g0⟩
 have l0 : iltB (Int.ofNat 0) (Int.ofNat (rsB 1 (rsB 1 w)).length) = false := by rw [iltB_eq, hr]; rfl
 have eP : parR w = rightB (Int.ofNat (hdN w)) (Int.ofNat 0) (Int.ofNat 0) (Int.ofNat 0) (Int.ofNat 0) 0 0 [] := by unfold parR; rw [eS]; rfl
 have eO : parOK w = rightB (Int.ofNat (hdN w)) (Int.ofNat 0) (Int.ofNat 0) (Int.ofNat 0) (Int.ofNat 0) 0 0 [] := by unfold parOK; rw [eK, eR, hk, hr, eP]; rfl
 cases hq : (rightB (Int.ofNat (hdN w)) (Int.ofNat 0) (Int.ofNat 0) (Int.ofNat 0) (Int.ofNat 0) 0 0 []) with
 | false =>
  refine ⟨fun h => (by rw [eO, hq] at h; cases h), fun _ => ?_⟩
  have key := Pa_fttfft w.length (ofBytes w)
  iterate 11
   replace key := key (by
    (try simp only [PL, ZL, zC, zV, kept_eq, f0, t1, f1, t2, f2, dr, o1, o2, hm0, hk, l0, hq])
    first
     | done
     | with_reducible rfl
     | (rw [nble]; exact decide_eq_true (by omega))
     | (rw [nbeq]; exact decide_eq_true (by omega))
     | (rw [ileB_eq]; exact decide_eq_true (by simp only [Int.ofNat_eq_natCast]; omega)))
  obtain ⟨h', h, hb⟩ := key
  simp only [PL, ZL, zC, zV, kept_eq, f0, t1, f1, t2, f2, dr, o1, o2, hm0, List.map_cons, List.map_nil] at h hb
  injection hb with g0 _
  exact ⟨60, _, h', [], h, rfl, rfl, g0⟩
 | true =>
  refine ⟨fun _ => ?_, fun h => (by rw [eO, hq] at h; cases h)⟩
  have ev : (VGd w) = (AV.tuple [.agg [.int .u8 (Int.ofNat (hdN w)), .int .u8 (Int.ofNat 0), .int .u8 (Int.ofNat 0), .int .u32 (Int.ofNat 0), .int .u8 (Int.ofNat 0), .fsl true 0 [], .fsl true 0 []], .int .i64 (Int.ofNat 0)]) := by unfold VGd qSub qPl qFi qCt qA qD; rw [eS]; rfl
  rw [ev]
  have key := Pa_fttfff w.length (ofBytes w)
  iterate 11
   replace key := key (by
    (try simp only [PL, ZL, zC, zV, kept_eq, f0, t1, f1, t2, f2, dr, o1, o2, hm0, hk, l0, hq])
    first
     | done
     | with_reducible rfl
     | (rw [nble]; exact decide_eq_true (by omega))
     | (rw [nbeq]; exact decide_eq_true (by omega))
     | (rw [ileB_eq]; exact decide_eq_true (by simp only [Int.ofNat_eq_natCast]; omega)))
  obtain ⟨h', h, hb⟩ := key
  simp only [PL, ZL, zC, zV, kept_eq, f0, t1, f1, t2, f2, dr, o1, o2, hm0, List.map_cons, List.map_nil] at h hb
  injection hb with g0 _
  exact ⟨60, _, h', [], h, rfl, rfl, g0⟩
set_option maxHeartbeats 4000000 in
theorem par_2m (w : List UInt8) (hN : w.length ≤ 100000) (ho : hdN w = 2) (hm : hdN (rsB 1 w) ≠ 0) : (parOK w = true → PEnd w (VGd w)) ∧ (parOK w = false → PEnd w VBd) := by
 have f0 : seg w 0 w.length = w := by unfold seg; rw [List.drop_zero, List.take_of_length_le (Nat.le_refl _)]
 have s1 : rsB 1 w <:+ w := rsB_suf 1 w
 have t1 := tk_suf 1 (List.suffix_refl w) rfl (off := 0) (by omega)
 have f1 := seg_suf s1
 have n1 := s1.length_le
 have o1 : ieqB (Int.ofNat (hdN w)) (Int.ofNat 1) = false := by rw [ieqB_eq]; exact beq_eq_false_iff_ne.2 (fun h => by simp only [Int.ofNat_eq_natCast] at h; omega)
 have o2 : ieqB (Int.ofNat (hdN w)) (Int.ofNat 2) = true := by rw [ho]; rfl
 have s2 := (rsB_suf 1 (rsB 1 w)).trans s1
 have t2 := tk_suf 1 s1 rfl (off := w.length - (rsB 1 w).length) (by omega)
 have f2 := seg_suf s2
 have n2 := s2.length_le
 have dr : List.drop (w.length - (rsB 1 (rsB 1 w)).length) w = rsB 1 (rsB 1 w) := by
  obtain ⟨t, ht⟩ := s2
  have hl : w.length - (rsB 1 (rsB 1 w)).length = t.length := by
   have := congrArg List.length ht
   rw [List.length_append] at this; omega
  rw [hl]
  conv => lhs; rw [← ht]
  exact List.drop_left
 have hm0 : Nat.beq (hdN (rsB 1 w)) 0 = false := by rw [nbeq]; exact decide_eq_false hm
 have mb := hdN_lt (rsB 1 w)
 have la : (pA (Int.ofNat (hdN w)) (rsB 1 (rsB 1 w)) (Nat.ble 1 w.length && Nat.ble 1 (rsB 1 w).length) (hdN (rsB 1 w))).length = hdN (rsB 1 w) := pA_len _ _ _ _
 have rca : rowCut (encU .u32 (pA (Int.ofNat (hdN w)) (rsB 1 (rsB 1 w)) (Nat.ble 1 w.length && Nat.ble 1 (rsB 1 w).length) (hdN (rsB 1 w)))) 0 (hdN (rsB 1 w)) = encU .u32 (pA (Int.ofNat (hdN w)) (rsB 1 (rsB 1 w)) (Nat.ble 1 w.length && Nat.ble 1 (rsB 1 w).length) (hdN (rsB 1 w))) := rowCut_id _ _ (by rw [encU_length, la])
 have hi2 : Int.ofNat (hdN w) = 2 := by rw [ho]; rfl
 have ld : (pD (Int.ofNat (hdN w)) (rsB 1 (rsB 1 w)) (Nat.ble 1 w.length && Nat.ble 1 (rsB 1 w).length) (hdN (rsB 1 w))).length = hdN (rsB 1 w) := by rw [hi2]; exact pD_len _ _ _
 have rcd : rowCut (enD (pD (Int.ofNat (hdN w)) (rsB 1 (rsB 1 w)) (Nat.ble 1 w.length && Nat.ble 1 (rsB 1 w).length) (hdN (rsB 1 w)))) 0 (hdN (rsB 1 w)) = enD (pD (Int.ofNat (hdN w)) (rsB 1 (rsB 1 w)) (Nat.ble 1 w.length && Nat.ble 1 (rsB 1 w).length) (hdN (rsB 1 w))) := rowCut_id _ _ (by rw [enD_length, ld])
 have eS : parS w = ⟨pK (Int.ofNat (hdN w)) (rsB 1 (rsB 1 w)) (Nat.ble 1 w.length && Nat.ble 1 (rsB 1 w).length) (hdN (rsB 1 w)), pR (Int.ofNat (hdN w)) (rsB 1 (rsB 1 w)) (Nat.ble 1 w.length && Nat.ble 1 (rsB 1 w).length) (hdN (rsB 1 w)), 0, 0, 0, 0, pA (Int.ofNat (hdN w)) (rsB 1 (rsB 1 w)) (Nat.ble 1 w.length && Nat.ble 1 (rsB 1 w).length) (hdN (rsB 1 w)), pD (Int.ofNat (hdN w)) (rsB 1 (rsB 1 w)) (Nat.ble 1 w.length && Nat.ble 1 (rsB 1 w).length) (hdN (rsB 1 w))⟩ := by unfold parS; simp only [if_neg (show hdN w ≠ 1 by omega), if_pos (show hdN w = 2 ∨ hdN w = 3 by omega)]
 have eK : (parS w).k = (pK (Int.ofNat (hdN w)) (rsB 1 (rsB 1 w)) (Nat.ble 1 w.length && Nat.ble 1 (rsB 1 w).length) (hdN (rsB 1 w))) := by rw [eS]
 have eR : (parS w).r = pR (Int.ofNat (hdN w)) (rsB 1 (rsB 1 w)) (Nat.ble 1 w.length && Nat.ble 1 (rsB 1 w).length) (hdN (rsB 1 w)) := by rw [eS]
 cases hk : (pK (Int.ofNat (hdN w)) (rsB 1 (rsB 1 w)) (Nat.ble 1 w.length && Nat.ble 1 (rsB 1 w).length) (hdN (rsB 1 w)) : Bool) with
 | false =>
  have no : parOK w = false := by unfold parOK; rw [eK, hk]; rfl
  refine ⟨fun h => (by rw [no] at h; cases h), fun _ => ?_⟩
  have key := Pa_ftftt w.length (ofBytes w)
  iterate 15
   replace key := key (by
    (try simp only [PL, ZL, zC, zV, kept_eq, f0, t1, f1, t2, f2, dr, o1, o2, hm0, Nat.zero_add, Nat.mul_one, rca, rcd, hk])
    first
     | done
     | with_reducible rfl
     | (rw [nble]; exact decide_eq_true (by omega))
     | (rw [nbeq]; exact decide_eq_true (by omega))
     | (rw [ileB_eq]; exact decide_eq_true (by simp only [Int.ofNat_eq_natCast]; omega)))
  obtain ⟨h', h, hb⟩ := key
  simp only [PL, ZL, zC, zV, kept_eq, f0, t1, f1, t2, f2, dr, o1, o2, hm0, Nat.zero_add, Nat.mul_one, rca, rcd, List.map_cons, List.map_nil] at h hb
  injection hb with g0 _
  exact ⟨60, _, h', [], h, rfl, rfl, g0⟩
 | true =>
 by_cases hr : (pR (Int.ofNat (hdN w)) (rsB 1 (rsB 1 w)) (Nat.ble 1 w.length && Nat.ble 1 (rsB 1 w).length) (hdN (rsB 1 w))).length = 0
 case neg =>
  have no : parOK w = false := by unfold parOK; rw [eR, show Nat.beq (pR (Int.ofNat (hdN w)) (rsB 1 (rsB 1 w)) (Nat.ble 1 w.length && Nat.ble 1 (rsB 1 w).length) (hdN (rsB 1 w))).length 0 = false by rw [nbeq]; exact decide_eq_false hr, Bool.false_and, Bool.and_false]
  have l0 : iltB (Int.ofNat 0) (Int.ofNat (pR (Int.ofNat (hdN w)) (rsB 1 (rsB 1 w)) (Nat.ble 1 w.length && Nat.ble 1 (rsB 1 w).length) (hdN (rsB 1 w))).length) = true := by rw [iltB_eq]; exact decide_eq_true (Int.ofNat_lt.2 (Nat.pos_of_ne_zero hr))
  refine ⟨fun h => (by rw [no] at h; cases h), fun _ => ?_⟩
  have key := Pa_ftftft w.length (ofBytes w)
  iterate 16
   replace key := key (by
    (try simp only [PL, ZL, zC, zV, kept_eq, f0, t1, f1, t2, f2, dr, o1, o2, hm0, Nat.zero_add, Nat.mul_one, rca, rcd, hk, l0])
    first
     | done
     | with_reducible rfl
     | (rw [nble]; exact decide_eq_true (by omega))
     | (rw [nbeq]; exact decide_eq_true (by omega))
     | (rw [ileB_eq]; exact decide_eq_true (by simp only [Int.ofNat_eq_natCast]; omega)))
  obtain ⟨h', h, hb⟩ := key
  simp only [PL, ZL, zC, zV, kept_eq, f0, t1, f1, t2, f2, dr, o1, o2, hm0, Nat.zero_add, Nat.mul_one, rca, rcd, List.map_cons, List.map_nil] at h hb
  injection hb with g0 _
  exact ⟨60, _, h', [], h, rfl, rfl, g0⟩
 have l0 : iltB (Int.ofNat 0) (Int.ofNat (pR (Int.ofNat (hdN w)) (rsB 1 (rsB 1 w)) (Nat.ble 1 w.length && Nat.ble 1 (rsB 1 w).length) (hdN (rsB 1 w))).length) = false := by rw [iltB_eq, hr]; rfl
 have eP : parR w = rightB (Int.ofNat (hdN w)) (Int.ofNat 0) (Int.ofNat 0) (Int.ofNat 0) (Int.ofNat 0) (hdN (rsB 1 w)) (hdN (rsB 1 w)) (enD (pD (Int.ofNat (hdN w)) (rsB 1 (rsB 1 w)) (Nat.ble 1 w.length && Nat.ble 1 (rsB 1 w).length) (hdN (rsB 1 w)))) := by unfold parR; rw [eS]; simp only; rw [la, ld]
 have eO : parOK w = rightB (Int.ofNat (hdN w)) (Int.ofNat 0) (Int.ofNat 0) (Int.ofNat 0) (Int.ofNat 0) (hdN (rsB 1 w)) (hdN (rsB 1 w)) (enD (pD (Int.ofNat (hdN w)) (rsB 1 (rsB 1 w)) (Nat.ble 1 w.length && Nat.ble 1 (rsB 1 w).length) (hdN (rsB 1 w)))) := by unfold parOK; rw [eK, eR, hk, hr, eP]; rfl
 cases hq : (rightB (Int.ofNat (hdN w)) (Int.ofNat 0) (Int.ofNat 0) (Int.ofNat 0) (Int.ofNat 0) (hdN (rsB 1 w)) (hdN (rsB 1 w)) (enD (pD (Int.ofNat (hdN w)) (rsB 1 (rsB 1 w)) (Nat.ble 1 w.length && Nat.ble 1 (rsB 1 w).length) (hdN (rsB 1 w))))) with
 | false =>
  refine ⟨fun h => (by rw [eO, hq] at h; cases h), fun _ => ?_⟩
  have key := Pa_ftftfft w.length (ofBytes w)
  iterate 22
   replace key := key (by
    (try simp only [PL, ZL, zC, zV, kept_eq, f0, t1, f1, t2, f2, dr, o1, o2, hm0, Nat.zero_add, Nat.mul_one, rca, rcd, hk, l0, hq])
    first
     | done
     | with_reducible rfl
     | (rw [nble]; exact decide_eq_true (by omega))
     | (rw [nbeq]; exact decide_eq_true (by omega))
     | (rw [ileB_eq]; exact decide_eq_true (by simp only [Int.ofNat_eq_natCast]; omega)))
  obtain ⟨h', h, hb⟩ := key
  simp only [PL, ZL, zC, zV, kept_eq, f0, t1, f1, t2, f2, dr, o1, o2, hm0, Nat.zero_add, Nat.mul_one, rca, rcd, List.map_cons, List.map_nil] at h hb
  injection hb with g0 _
  exact ⟨60, _, h', [], h, rfl, rfl, g0⟩
 | true =>
  refine ⟨fun _ => ?_, fun h => (by rw [eO, hq] at h; cases h)⟩
  have ev : (VGd w) = (AV.tuple [.agg [.int .u8 (Int.ofNat (hdN w)), .int .u8 (Int.ofNat 0), .int .u8 (Int.ofNat 0), .int .u32 (Int.ofNat 0), .int .u8 (Int.ofNat 0), .fsl false (hdN (rsB 1 w)) (encU .u32 (pA (Int.ofNat (hdN w)) (rsB 1 (rsB 1 w)) (Nat.ble 1 w.length && Nat.ble 1 (rsB 1 w).length) (hdN (rsB 1 w)))), .fsl false (hdN (rsB 1 w)) (enD (pD (Int.ofNat (hdN w)) (rsB 1 (rsB 1 w)) (Nat.ble 1 w.length && Nat.ble 1 (rsB 1 w).length) (hdN (rsB 1 w))))], .int .i64 (Int.ofNat 0)]) := by unfold VGd qSub qPl qFi qCt qA qD nilN; rw [eS]; simp only; rw [la, ld, hm0]
  rw [ev]
  have key := Pa_ftftfff w.length (ofBytes w)
  iterate 22
   replace key := key (by
    (try simp only [PL, ZL, zC, zV, kept_eq, f0, t1, f1, t2, f2, dr, o1, o2, hm0, Nat.zero_add, Nat.mul_one, rca, rcd, hk, l0, hq])
    first
     | done
     | with_reducible rfl
     | (rw [nble]; exact decide_eq_true (by omega))
     | (rw [nbeq]; exact decide_eq_true (by omega))
     | (rw [ileB_eq]; exact decide_eq_true (by simp only [Int.ofNat_eq_natCast]; omega)))
  obtain ⟨h', h, hb⟩ := key
  simp only [PL, ZL, zC, zV, kept_eq, f0, t1, f1, t2, f2, dr, o1, o2, hm0, Nat.zero_add, Nat.mul_one, rca, rcd, List.map_cons, List.map_nil] at h hb
  injection hb with g0 hb; injection hb with g1 hb; injection hb with g2 _
  refine ⟨60, _, h', (true :: (!memB 4 [0]) :: Nat.ble (0 + hdN (rsB 1 w) * szOf C10q 27) (hdN (rsB 1 w)) :: AV.plainL (encU .u32 (pA (Int.ofNat (hdN w)) (rsB 1 (rsB 1 w)) (Nat.ble 1 w.length && Nat.ble 1 (rsB 1 w).length) (hdN (rsB 1 w)))) :: true :: (!memB 5 [0]) :: Nat.ble (0 + hdN (rsB 1 w) * szOf C10q 36) (hdN (rsB 1 w)) :: AV.plainL (enD (pD (Int.ofNat (hdN w)) (rsB 1 (rsB 1 w)) (Nat.ble 1 w.length && Nat.ble 1 (rsB 1 w).length) (hdN (rsB 1 w)))) :: []), h, ?_, ?_, g0⟩
  · simp only [zkQ, zS, zL, zk1, ob_some, g1, g2]
    simp only [sz27, sz36, Nat.mul_one, List.nil_append, List.append_nil, List.cons_append]
    rw [rowCut_id (encU .u32 (pA (Int.ofNat (hdN w)) (rsB 1 (rsB 1 w)) (Nat.ble 1 w.length && Nat.ble 1 (rsB 1 w).length) (hdN (rsB 1 w)))) (hdN (rsB 1 w)) (by rw [encU_length, pA_len]), rowCut_id (enD (pD (Int.ofNat (hdN w)) (rsB 1 (rsB 1 w)) (Nat.ble 1 w.length && Nat.ble 1 (rsB 1 w).length) (hdN (rsB 1 w)))) (hdN (rsB 1 w)) (by rw [enD_length]; omega)]
  · simp only [sz27, sz36, Nat.mul_one, Nat.zero_add, allTrue_cons, encU_plainL, enD_plainL, nble, Nat.le_refl, decide_true, true_and]; exact ⟨rfl, rfl, rfl⟩
set_option maxHeartbeats 4000000 in
theorem par_3z (w : List UInt8) (hN : w.length ≤ 100000) (ho : hdN w = 3) (hm : hdN (rsB 1 w) = 0) : (parOK w = true → PEnd w (VGd w)) ∧ (parOK w = false → PEnd w VBd) := by
 have f0 : seg w 0 w.length = w := by unfold seg; rw [List.drop_zero, List.take_of_length_le (Nat.le_refl _)]
 have s1 : rsB 1 w <:+ w := rsB_suf 1 w
 have t1 := tk_suf 1 (List.suffix_refl w) rfl (off := 0) (by omega)
 have f1 := seg_suf s1
 have n1 := s1.length_le
 have o1 : ieqB (Int.ofNat (hdN w)) (Int.ofNat 1) = false := by rw [ieqB_eq]; exact beq_eq_false_iff_ne.2 (fun h => by simp only [Int.ofNat_eq_natCast] at h; omega)
 have o2 : ieqB (Int.ofNat (hdN w)) (Int.ofNat 2) = false := by rw [ieqB_eq]; exact beq_eq_false_iff_ne.2 (fun h => by simp only [Int.ofNat_eq_natCast] at h; omega)
 have o3 : ieqB (Int.ofNat (hdN w)) (Int.ofNat 3) = true := by rw [ho]; rfl
 have s2 := (rsB_suf 1 (rsB 1 w)).trans s1
 have t2 := tk_suf 1 s1 rfl (off := w.length - (rsB 1 w).length) (by omega)
 have f2 := seg_suf s2
 have n2 := s2.length_le
 have dr : List.drop (w.length - (rsB 1 (rsB 1 w)).length) w = rsB 1 (rsB 1 w) := by
  obtain ⟨t, ht⟩ := s2
  have hl : w.length - (rsB 1 (rsB 1 w)).length = t.length := by
   have := congrArg List.length ht
   rw [List.length_append] at this; omega
  rw [hl]
  conv => lhs; rw [← ht]
  exact List.drop_left
 have hm0 : Nat.beq (hdN (rsB 1 w)) 0 = true := by rw [hm]; rfl
 have eS : parS w = ⟨Nat.ble 1 w.length && Nat.ble 1 (rsB 1 w).length, rsB 1 (rsB 1 w), 0, 0, 0, 0, [], []⟩ := by
  unfold parS; simp only [if_neg (show hdN w ≠ 1 by omega), if_pos (show hdN w = 2 ∨ hdN w = 3 by omega), hm]; rfl
 have eK : (parS w).k = (Nat.ble 1 w.length && Nat.ble 1 (rsB 1 w).length) := by rw [eS]
 have eR : (parS w).r = rsB 1 (rsB 1 w) := by rw [eS]
 cases hk : (Nat.ble 1 w.length && Nat.ble 1 (rsB 1 w).length : Bool) with
 | false =>
  have no : parOK w = false := by unfold parOK; rw [eK, hk]; rfl
  refine ⟨fun h => (by rw [no] at h; cases h), fun _ => ?_⟩
  have key := Pa_ffttt w.length (ofBytes w)
  iterate 10
   replace key := key (by
    (try simp only [PL, ZL, zC, zV, kept_eq, f0, t1, f1, t2, f2, dr, o1, o2, o3, hm0, hk])
    first
     | done
     | with_reducible rfl
     | (rw [nble]; exact decide_eq_true (by omega))
     | (rw [nbeq]; exact decide_eq_true (by omega))
     | (rw [ileB_eq]; exact decide_eq_true (by simp only [Int.ofNat_eq_natCast]; omega)))
  obtain ⟨h', h, hb⟩ := key
  simp only [PL, ZL, zC, zV, kept_eq, f0, t1, f1, t2, f2, dr, o1, o2, o3, hm0, List.map_cons, List.map_nil] at h hb
  injection hb with g0 _
  exact ⟨60, _, h', [], h, rfl, rfl, g0⟩
 | true =>
 by_cases hr : (rsB 1 (rsB 1 w)).length = 0
 case neg =>
  have no : parOK w = false := by unfold parOK; rw [eR, show Nat.beq (rsB 1 (rsB 1 w)).length 0 = false by rw [nbeq]; exact decide_eq_false hr, Bool.false_and, Bool.and_false]
  have l0 : iltB (Int.ofNat 0) (Int.ofNat (rsB 1 (rsB 1 w)).length) = true := by rw [iltB_eq]; exact decide_eq_true (Int.ofNat_lt.2 (Nat.pos_of_ne_zero hr))
  refine ⟨fun h => (by rw [no] at h; cases h), fun _ => ?_⟩
  have key := Pa_ffttft w.length (ofBytes w)
  iterate 11
   replace key := key (by
    (try simp only [PL, ZL, zC, zV, kept_eq, f0, t1, f1, t2, f2, dr, o1, o2, o3, hm0, hk, l0])
    first
     | done
     | with_reducible rfl
     | (rw [nble]; exact decide_eq_true (by omega))
     | (rw [nbeq]; exact decide_eq_true (by omega))
     | (rw [ileB_eq]; exact decide_eq_true (by simp only [Int.ofNat_eq_natCast]; omega)))
  obtain ⟨h', h, hb⟩ := key
  simp only [PL, ZL, zC, zV, kept_eq, f0, t1, f1, t2, f2, dr, o1, o2, o3, hm0, List.map_cons, List.map_nil] at h hb
  injection hb with g0 _
  exact ⟨60, _, h', [], h, rfl, rfl, g0⟩
 have l0 : iltB (Int.ofNat 0) (Int.ofNat (rsB 1 (rsB 1 w)).length) = false := by rw [iltB_eq, hr]; rfl
 have eP : parR w = rightB (Int.ofNat (hdN w)) (Int.ofNat 0) (Int.ofNat 0) (Int.ofNat 0) (Int.ofNat 0) 0 0 [] := by unfold parR; rw [eS]; rfl
 have eO : parOK w = rightB (Int.ofNat (hdN w)) (Int.ofNat 0) (Int.ofNat 0) (Int.ofNat 0) (Int.ofNat 0) 0 0 [] := by unfold parOK; rw [eK, eR, hk, hr, eP]; rfl
 cases hq : (rightB (Int.ofNat (hdN w)) (Int.ofNat 0) (Int.ofNat 0) (Int.ofNat 0) (Int.ofNat 0) 0 0 []) with
 | false =>
  refine ⟨fun h => (by rw [eO, hq] at h; cases h), fun _ => ?_⟩
  have key := Pa_ffttfft w.length (ofBytes w)
  iterate 12
   replace key := key (by
    (try simp only [PL, ZL, zC, zV, kept_eq, f0, t1, f1, t2, f2, dr, o1, o2, o3, hm0, hk, l0, hq])
    first
     | done
     | with_reducible rfl
     | (rw [nble]; exact decide_eq_true (by omega))
     | (rw [nbeq]; exact decide_eq_true (by omega))
     | (rw [ileB_eq]; exact decide_eq_true (by simp only [Int.ofNat_eq_natCast]; omega)))
  obtain ⟨h', h, hb⟩ := key
  simp only [PL, ZL, zC, zV, kept_eq, f0, t1, f1, t2, f2, dr, o1, o2, o3, hm0, List.map_cons, List.map_nil] at h hb
  injection hb with g0 _
  exact ⟨60, _, h', [], h, rfl, rfl, g0⟩
 | true =>
  refine ⟨fun _ => ?_, fun h => (by rw [eO, hq] at h; cases h)⟩
  have ev : (VGd w) = (AV.tuple [.agg [.int .u8 (Int.ofNat (hdN w)), .int .u8 (Int.ofNat 0), .int .u8 (Int.ofNat 0), .int .u32 (Int.ofNat 0), .int .u8 (Int.ofNat 0), .fsl true 0 [], .fsl true 0 []], .int .i64 (Int.ofNat 0)]) := by unfold VGd qSub qPl qFi qCt qA qD; rw [eS]; rfl
  rw [ev]
  have key := Pa_ffttfff w.length (ofBytes w)
  iterate 12
   replace key := key (by
    (try simp only [PL, ZL, zC, zV, kept_eq, f0, t1, f1, t2, f2, dr, o1, o2, o3, hm0, hk, l0, hq])
    first
     | done
     | with_reducible rfl
     | (rw [nble]; exact decide_eq_true (by omega))
     | (rw [nbeq]; exact decide_eq_true (by omega))
     | (rw [ileB_eq]; exact decide_eq_true (by simp only [Int.ofNat_eq_natCast]; omega)))
  obtain ⟨h', h, hb⟩ := key
  simp only [PL, ZL, zC, zV, kept_eq, f0, t1, f1, t2, f2, dr, o1, o2, o3, hm0, List.map_cons, List.map_nil] at h hb
  injection hb with g0 _
  exact ⟨60, _, h', [], h, rfl, rfl, g0⟩
set_option maxHeartbeats 4000000 in
theorem par_3m (w : List UInt8) (hN : w.length ≤ 100000) (ho : hdN w = 3) (hm : hdN (rsB 1 w) ≠ 0) : (parOK w = true → PEnd w (VGd w)) ∧ (parOK w = false → PEnd w VBd) := by
 have f0 : seg w 0 w.length = w := by unfold seg; rw [List.drop_zero, List.take_of_length_le (Nat.le_refl _)]
 have s1 : rsB 1 w <:+ w := rsB_suf 1 w
 have t1 := tk_suf 1 (List.suffix_refl w) rfl (off := 0) (by omega)
 have f1 := seg_suf s1
 have n1 := s1.length_le
 have o1 : ieqB (Int.ofNat (hdN w)) (Int.ofNat 1) = false := by rw [ieqB_eq]; exact beq_eq_false_iff_ne.2 (fun h => by simp only [Int.ofNat_eq_natCast] at h; omega)
 have o2 : ieqB (Int.ofNat (hdN w)) (Int.ofNat 2) = false := by rw [ieqB_eq]; exact beq_eq_false_iff_ne.2 (fun h => by simp only [Int.ofNat_eq_natCast] at h; omega)
 have o3 : ieqB (Int.ofNat (hdN w)) (Int.ofNat 3) = true := by rw [ho]; rfl
 have s2 := (rsB_suf 1 (rsB 1 w)).trans s1
 have t2 := tk_suf 1 s1 rfl (off := w.length - (rsB 1 w).length) (by omega)
 have f2 := seg_suf s2
 have n2 := s2.length_le
 have dr : List.drop (w.length - (rsB 1 (rsB 1 w)).length) w = rsB 1 (rsB 1 w) := by
  obtain ⟨t, ht⟩ := s2
  have hl : w.length - (rsB 1 (rsB 1 w)).length = t.length := by
   have := congrArg List.length ht
   rw [List.length_append] at this; omega
  rw [hl]
  conv => lhs; rw [← ht]
  exact List.drop_left
 have hm0 : Nat.beq (hdN (rsB 1 w)) 0 = false := by rw [nbeq]; exact decide_eq_false hm
 have mb := hdN_lt (rsB 1 w)
 have la : (pA (Int.ofNat (hdN w)) (rsB 1 (rsB 1 w)) (Nat.ble 1 w.length && Nat.ble 1 (rsB 1 w).length) (hdN (rsB 1 w))).length = hdN (rsB 1 w) := pA_len _ _ _ _
 have rca : rowCut (encU .u32 (pA (Int.ofNat (hdN w)) (rsB 1 (rsB 1 w)) (Nat.ble 1 w.length && Nat.ble 1 (rsB 1 w).length) (hdN (rsB 1 w)))) 0 (hdN (rsB 1 w)) = encU .u32 (pA (Int.ofNat (hdN w)) (rsB 1 (rsB 1 w)) (Nat.ble 1 w.length && Nat.ble 1 (rsB 1 w).length) (hdN (rsB 1 w))) := rowCut_id _ _ (by rw [encU_length, la])
 have ld : pD (Int.ofNat (hdN w)) (rsB 1 (rsB 1 w)) (Nat.ble 1 w.length && Nat.ble 1 (rsB 1 w).length) (hdN (rsB 1 w)) = [] := pD_nil (by rw [ho]; decide) _ _ _
 have eS : parS w = ⟨pK (Int.ofNat (hdN w)) (rsB 1 (rsB 1 w)) (Nat.ble 1 w.length && Nat.ble 1 (rsB 1 w).length) (hdN (rsB 1 w)), pR (Int.ofNat (hdN w)) (rsB 1 (rsB 1 w)) (Nat.ble 1 w.length && Nat.ble 1 (rsB 1 w).length) (hdN (rsB 1 w)), 0, 0, 0, 0, pA (Int.ofNat (hdN w)) (rsB 1 (rsB 1 w)) (Nat.ble 1 w.length && Nat.ble 1 (rsB 1 w).length) (hdN (rsB 1 w)), pD (Int.ofNat (hdN w)) (rsB 1 (rsB 1 w)) (Nat.ble 1 w.length && Nat.ble 1 (rsB 1 w).length) (hdN (rsB 1 w))⟩ := by unfold parS; simp only [if_neg (show hdN w ≠ 1 by omega), if_pos (show hdN w = 2 ∨ hdN w = 3 by omega)]
 have eK : (parS w).k = (pK (Int.ofNat (hdN w)) (rsB 1 (rsB 1 w)) (Nat.ble 1 w.length && Nat.ble 1 (rsB 1 w).length) (hdN (rsB 1 w))) := by rw [eS]
 have eR : (parS w).r = pR (Int.ofNat (hdN w)) (rsB 1 (rsB 1 w)) (Nat.ble 1 w.length && Nat.ble 1 (rsB 1 w).length) (hdN (rsB 1 w)) := by rw [eS]
 cases hk : (pK (Int.ofNat (hdN w)) (rsB 1 (rsB 1 w)) (Nat.ble 1 w.length && Nat.ble 1 (rsB 1 w).length) (hdN (rsB 1 w)) : Bool) with
 | false =>
  have no : parOK w = false := by unfold parOK; rw [eK, hk]; rfl
  refine ⟨fun h => (by rw [no] at h; cases h), fun _ => ?_⟩
  have key := Pa_fftfft w.length (ofBytes w)
  iterate 16
   replace key := key (by
    (try simp only [PL, ZL, zC, zV, kept_eq, f0, t1, f1, t2, f2, dr, o1, o2, o3, hm0, Nat.zero_add, Nat.mul_one, rca, hk])
    first
     | done
     | with_reducible rfl
     | (rw [nble]; exact decide_eq_true (by omega))
     | (rw [nbeq]; exact decide_eq_true (by omega))
     | (rw [ileB_eq]; exact decide_eq_true (by simp only [Int.ofNat_eq_natCast]; omega)))
  obtain ⟨h', h, hb⟩ := key
  simp only [PL, ZL, zC, zV, kept_eq, f0, t1, f1, t2, f2, dr, o1, o2, o3, hm0, Nat.zero_add, Nat.mul_one, rca, List.map_cons, List.map_nil] at h hb
  injection hb with g0 _
  exact ⟨60, _, h', [], h, rfl, rfl, g0⟩
 | true =>
 by_cases hr : (pR (Int.ofNat (hdN w)) (rsB 1 (rsB 1 w)) (Nat.ble 1 w.length && Nat.ble 1 (rsB 1 w).length) (hdN (rsB 1 w))).length = 0
 case neg =>
  have no : parOK w = false := by unfold parOK; rw [eR, show Nat.beq (pR (Int.ofNat (hdN w)) (rsB 1 (rsB 1 w)) (Nat.ble 1 w.length && Nat.ble 1 (rsB 1 w).length) (hdN (rsB 1 w))).length 0 = false by rw [nbeq]; exact decide_eq_false hr, Bool.false_and, Bool.and_false]
  have l0 : iltB (Int.ofNat 0) (Int.ofNat (pR (Int.ofNat (hdN w)) (rsB 1 (rsB 1 w)) (Nat.ble 1 w.length && Nat.ble 1 (rsB 1 w).length) (hdN (rsB 1 w))).length) = true := by rw [iltB_eq]; exact decide_eq_true (Int.ofNat_lt.2 (Nat.pos_of_ne_zero hr))
  refine ⟨fun h => (by rw [no] at h; cases h), fun _ => ?_⟩
  have key := Pa_fftffft w.length (ofBytes w)
  iterate 17
   replace key := key (by
    (try simp only [PL, ZL, zC, zV, kept_eq, f0, t1, f1, t2, f2, dr, o1, o2, o3, hm0, Nat.zero_add, Nat.mul_one, rca, hk, l0])
    first
     | done
     | with_reducible rfl
     | (rw [nble]; exact decide_eq_true (by omega))
     | (rw [nbeq]; exact decide_eq_true (by omega))
     | (rw [ileB_eq]; exact decide_eq_true (by simp only [Int.ofNat_eq_natCast]; omega)))
  obtain ⟨h', h, hb⟩ := key
  simp only [PL, ZL, zC, zV, kept_eq, f0, t1, f1, t2, f2, dr, o1, o2, o3, hm0, Nat.zero_add, Nat.mul_one, rca, List.map_cons, List.map_nil] at h hb
  injection hb with g0 _
  exact ⟨60, _, h', [], h, rfl, rfl, g0⟩
 have l0 : iltB (Int.ofNat 0) (Int.ofNat (pR (Int.ofNat (hdN w)) (rsB 1 (rsB 1 w)) (Nat.ble 1 w.length && Nat.ble 1 (rsB 1 w).length) (hdN (rsB 1 w))).length) = false := by rw [iltB_eq, hr]; rfl
 have eP : parR w = rightB (Int.ofNat (hdN w)) (Int.ofNat 0) (Int.ofNat 0) (Int.ofNat 0) (Int.ofNat 0) (hdN (rsB 1 w)) 0 [] := by unfold parR; rw [eS]; simp only; rw [la, ld]; rfl
 have eO : parOK w = rightB (Int.ofNat (hdN w)) (Int.ofNat 0) (Int.ofNat 0) (Int.ofNat 0) (Int.ofNat 0) (hdN (rsB 1 w)) 0 [] := by unfold parOK; rw [eK, eR, hk, hr, eP]; rfl
 cases hq : (rightB (Int.ofNat (hdN w)) (Int.ofNat 0) (Int.ofNat 0) (Int.ofNat 0) (Int.ofNat 0) (hdN (rsB 1 w)) 0 []) with
 | false =>
  refine ⟨fun h => (by rw [eO, hq] at h; cases h), fun _ => ?_⟩
  have key := Pa_fftfffft w.length (ofBytes w)
  iterate 20
   replace key := key (by
    (try simp only [PL, ZL, zC, zV, kept_eq, f0, t1, f1, t2, f2, dr, o1, o2, o3, hm0, Nat.zero_add, Nat.mul_one, rca, hk, l0, hq])
    first
     | done
     | with_reducible rfl
     | (rw [nble]; exact decide_eq_true (by omega))
     | (rw [nbeq]; exact decide_eq_true (by omega))
     | (rw [ileB_eq]; exact decide_eq_true (by simp only [Int.ofNat_eq_natCast]; omega)))
  obtain ⟨h', h, hb⟩ := key
  simp only [PL, ZL, zC, zV, kept_eq, f0, t1, f1, t2, f2, dr, o1, o2, o3, hm0, Nat.zero_add, Nat.mul_one, rca, List.map_cons, List.map_nil] at h hb
  injection hb with g0 _
  exact ⟨60, _, h', [], h, rfl, rfl, g0⟩
 | true =>
  refine ⟨fun _ => ?_, fun h => (by rw [eO, hq] at h; cases h)⟩
  have ev : (VGd w) = (AV.tuple [.agg [.int .u8 (Int.ofNat (hdN w)), .int .u8 (Int.ofNat 0), .int .u8 (Int.ofNat 0), .int .u32 (Int.ofNat 0), .int .u8 (Int.ofNat 0), .fsl false (hdN (rsB 1 w)) (encU .u32 (pA (Int.ofNat (hdN w)) (rsB 1 (rsB 1 w)) (Nat.ble 1 w.length && Nat.ble 1 (rsB 1 w).length) (hdN (rsB 1 w)))), .fsl true 0 []], .int .i64 (Int.ofNat 0)]) := by unfold VGd qSub qPl qFi qCt qA qD nilN; rw [eS]; simp only; rw [la, ld, hm0]; rfl
  rw [ev]
  have key := Pa_fftfffff w.length (ofBytes w)
  iterate 20
   replace key := key (by
    (try simp only [PL, ZL, zC, zV, kept_eq, f0, t1, f1, t2, f2, dr, o1, o2, o3, hm0, Nat.zero_add, Nat.mul_one, rca, hk, l0, hq])
    first
     | done
     | with_reducible rfl
     | (rw [nble]; exact decide_eq_true (by omega))
     | (rw [nbeq]; exact decide_eq_true (by omega))
     | (rw [ileB_eq]; exact decide_eq_true (by simp only [Int.ofNat_eq_natCast]; omega)))
  obtain ⟨h', h, hb⟩ := key
  simp only [PL, ZL, zC, zV, kept_eq, f0, t1, f1, t2, f2, dr, o1, o2, o3, hm0, Nat.zero_add, Nat.mul_one, rca, List.map_cons, List.map_nil] at h hb
  injection hb with g0 hb; injection hb with g1 _
  refine ⟨60, _, h', (true :: (!memB 4 [0]) :: Nat.ble (0 + hdN (rsB 1 w) * szOf C10q 27) (hdN (rsB 1 w)) :: AV.plainL (encU .u32 (pA (Int.ofNat (hdN w)) (rsB 1 (rsB 1 w)) (Nat.ble 1 w.length && Nat.ble 1 (rsB 1 w).length) (hdN (rsB 1 w)))) :: []), h, ?_, ?_, g0⟩
  · simp only [zkQ, zS, zL, zk1, ob_some, g1]
    simp only [sz27, Nat.mul_one, List.nil_append, List.append_nil, List.cons_append]
    rw [rowCut_id (encU .u32 (pA (Int.ofNat (hdN w)) (rsB 1 (rsB 1 w)) (Nat.ble 1 w.length && Nat.ble 1 (rsB 1 w).length) (hdN (rsB 1 w)))) (hdN (rsB 1 w)) (by rw [encU_length, pA_len])]
  · simp only [sz27, Nat.mul_one, Nat.zero_add, allTrue_cons, encU_plainL, nble, Nat.le_refl, decide_true, true_and]; exact ⟨rfl, rfl⟩
end Go.Proofs.Ytecncappdnhbaaa
end
end

section
noncomputable section
namespace Go.Proofs.Ytecncappdnhbaaa
open Go.Ab.M Go.Ab Go
def paT : List AV × List Blk → Bool := fun x => match x with
 | ([.slice (some (0, 0)) _ none], [.cells true 5 _ cs]) => kept (parOK (bytesL cs))
 | ([.slice (some (0, 0)) 1 (some 1)], _) => true
 | _ => false
def goodV (w : List UInt8) : AV := .tuple [.agg [.int .u8 (Int.ofNat (kept (hdN w))), .int .u8 (Int.ofNat (kept (qSub w))), .int .u8 (Int.ofNat (kept (qPl w))), .int .u32 (Int.ofNat (kept (qFi w))), .int .u8 (Int.ofNat (kept (qCt w))), .fsl (kept (nilN (qA w).length)) (kept (qA w).length) (kept (encU .u32 (qA w))), .fsl (kept (nilN (qD w).length)) (kept (qD w).length) (kept (enD (qD w)))], .int .i64 (Int.ofNat 0)]
def badV : AV := .tuple [.agg [.int .u8 (Int.ofNat 0), .int .u8 (Int.ofNat 0), .int .u8 (Int.ofNat 0), .int .u32 (Int.ofNat 0), .int .u8 (Int.ofNat 0), .fsl true 0 [], .fsl true 0 []], .int .i64 (Int.ofNat 3)]
def paG : List AV × List Blk → Option (List Bool × AV × List Blk) := fun x => match x with
 | ([.slice (some (0, 0)) n none], [.cells true 5 N cs]) => some ([u8L cs, Nat.beq cs.length N, Nat.beq n N, Nat.ble N 100000, parOK (bytesL cs)],
  .tuple [.agg [.int .u8 (Int.ofNat (kept (hdN (bytesL cs)))), .int .u8 (Int.ofNat (kept (qSub (bytesL cs)))), .int .u8 (Int.ofNat (kept (qPl (bytesL cs)))), .int .u32 (Int.ofNat (kept (qFi (bytesL cs)))), .int .u8 (Int.ofNat (kept (qCt (bytesL cs)))), .fsl (kept (nilN (qA (bytesL cs)).length)) (kept (qA (bytesL cs)).length) (kept (encU .u32 (qA (bytesL cs)))), .fsl (kept (nilN (qD (bytesL cs)).length)) (kept (qD (bytesL cs)).length) (kept (enD (qD (bytesL cs))))], .int .i64 (Int.ofNat 0)],
  [.cells true 5 N cs])
 | ([.slice (some (0, 0)) 1 (some 1)], [.cells true 5 1 [.int .u8 (.ofNat 4)]]) => some ([], .tuple [.agg [.int .u8 (Int.ofNat 4), .int .u8 (Int.ofNat 0), .int .u8 (Int.ofNat 0), .int .u32 (Int.ofNat 0), .int .u8 (Int.ofNat 0), .fsl true 0 [], .fsl true 0 []], .int .i64 (Int.ofNat 0)], [.cells true 5 1 [.int .u8 (Int.ofNat 4)]])
 | _ => none
def paB : List AV × List Blk → Option (List Bool × AV × List Blk) := fun x => match x with
 | ([.slice (some (0, 0)) n none], [.cells true 5 N cs]) => some ([u8L cs, Nat.beq cs.length N, Nat.beq n N, Nat.ble N 100000, !parOK (bytesL cs)],
  .tuple [.agg [.int .u8 (Int.ofNat 0), .int .u8 (Int.ofNat 0), .int .u8 (Int.ofNat 0), .int .u32 (Int.ofNat 0), .int .u8 (Int.ofNat 0), .fsl true 0 [], .fsl true 0 []], .int .i64 (Int.ofNat 3)], [.cells true 5 N cs])
 | ([.slice (some (0, 0)) 0 (some 0)], [.cells true 5 0 []]) => some ([], .tuple [.agg [.int .u8 (Int.ofNat 0), .int .u8 (Int.ofNat 0), .int .u8 (Int.ofNat 0), .int .u32 (Int.ofNat 0), .int .u8 (Int.ofNat 0), .fsl true 0 [], .fsl true 0 []], .int .i64 (Int.ofNat 3)], [.cells true 5 0 []])
 | _ => none
def parZ : ZT := ⟨[], .node paT (.leaf paG) (.leaf paB)⟩
theorem par_all (w : List UInt8) (hN : w.length ≤ 100000) : (parOK w = true → PEnd w (goodV w)) ∧ (parOK w = false → PEnd w badV) := by
 have eg : goodV w = .tuple [.agg [.int .u8 (Int.ofNat (hdN w)), .int .u8 (Int.ofNat (qSub w)), .int .u8 (Int.ofNat (qPl w)), .int .u32 (Int.ofNat (qFi w)), .int .u8 (Int.ofNat (qCt w)), .fsl (nilN (qA w).length) (qA w).length (encU .u32 (qA w)), .fsl (nilN (qD w).length) (qD w).length (enD (qD w))], .int .i64 (Int.ofNat 0)] := by
  unfold goodV; simp only [kept_eq]
 rw [eg]
 by_cases h1 : hdN w = 1
 · exact par_1 w hN h1
 by_cases h2 : hdN w = 2
 · by_cases hm : hdN (rsB 1 w) = 0
   · exact par_2z w hN h2 hm
   · exact par_2m w hN h2 hm
 by_cases h3 : hdN w = 3
 · by_cases hm : hdN (rsB 1 w) = 0
   · exact par_3z w hN h3 hm
   · exact par_3m w hN h3 hm
 by_cases h5 : hdN w = 5
 · exact par_5 w hN h5
 by_cases h6 : hdN w = 6
 · exact par_6 w hN h6
 by_cases h7 : hdN w = 7
 · exact par_7 w hN h7
 exact par_0 w hN ⟨h1, h2, h3, h5, h6, h7⟩
theorem okg_of {us : List AV} {n : Nat} {cs : List AV} {v : AV} {bs' : List Blk} (hp : AV.plainL cs = true) (hb : bs' = [.cells true 5 n cs])
 (h : ∃ (f : Nat) (v0 : AV) (h' : Heap) (c2 : List Bool), aCall C10q f (.fn 60) us (mkL [.cells true 5 n cs]) = some (v0, h') ∧ zkQ (szOf C10q) [0] h' v0 = some (c2, v) ∧ allTrue c2 = true ∧ h'.get 0 = .cells true 5 n cs) :
 ∃ (f : Nat) (v0 : AV) (h' : Heap) (ks : List Nat) (c2 : List Bool), aCall C10q f (.fn 60) us (mkL [.cells true 5 n cs]) = some (v0, h') ∧ nodupB ks = true ∧ (∀ j, j < 1 → ks[j]? = some j) ∧
 zkQ (szOf C10q) ks h' v0 = some (c2, v) ∧ allTrue c2 = true ∧ (∀ j ∈ ks, (h'.get j).writes = true) ∧
 bs' = mapL (fun b => (h'.get b).q (flOf tys) [] fun b => Go.Ab.idxN b ks) ks ∧ allTrue (flatL (fun b => (h'.get b).c (flOf tys) [] fun b => memB b ks) ks) = true := by
 obtain ⟨f, v0, h', c2, h1, h2, h3, g0⟩ := h
 refine ⟨f, v0, h', [0], c2, h1, rfl, fun j hj => ?_, h2, h3, fun j hj => ?_, ?_, ?_⟩
 · have : j = 0 := by omega
   subst this; rfl
 · have : j = 0 := by simpa using hj
   subst this; rw [g0]; rfl
 · subst hb
   show _ = [(h'.get 0).q _ _ _]
   rw [g0]; rfl
 · show allTrue ((h'.get 0).c _ _ _ ++ []) = true
   rw [g0]
   show allTrue ((true :: [AV.plainL cs]) ++ []) = true
   rw [hp]; rfl
theorem Pc_4 (h0 : (ieqB (Int.ofNat (kept (hdN (seg (bytesL [AV.int IntKind.u8 (Int.ofNat 4)]) 0 1)))) (Int.ofNat 1)) = false) (h1 : (ieqB (Int.ofNat (kept (hdN (seg (bytesL [AV.int IntKind.u8 (Int.ofNat 4)]) 0 1)))) (Int.ofNat 2)) = false) (h2 : (ieqB (Int.ofNat (kept (hdN (seg (bytesL [AV.int IntKind.u8 (Int.ofNat 4)]) 0 1)))) (Int.ofNat 3)) = false) (h3 : (ieqB (Int.ofNat (kept (hdN (seg (bytesL [AV.int IntKind.u8 (Int.ofNat 4)]) 0 1)))) (Int.ofNat 5)) = false) (h4 : (ieqB (Int.ofNat (kept (hdN (seg (bytesL [AV.int IntKind.u8 (Int.ofNat 4)]) 0 1)))) (Int.ofNat 6)) = false) (h5 : (ieqB (Int.ofNat (kept (hdN (seg (bytesL [AV.int IntKind.u8 (Int.ofNat 4)]) 0 1)))) (Int.ofNat 7)) = false) (h6 : (!(AV.bool (kept true)).boolOf) = false) (h7 : (iltB (Int.ofNat 0) (Int.ofNat (kept (tkL 1 1)))) = false) (h8 : (!kept (rightB (Int.ofNat (kept (hdN (seg (bytesL [AV.int IntKind.u8 (Int.ofNat 4)]) 0 1)))) (Int.ofNat 0) (Int.ofNat 0) (Int.ofNat 0) (Int.ofNat 0) 0 0 [])) = false) :
 ∃ h', aCall C10q 60 (Tgt.fn 60) [.slice (some (0, 0)) 1 (some 1)] (mkL [.cells true 5 1 [.int .u8 (Int.ofNat 4)]]) = some (AV.tuple [.agg [.int .u8 (Int.ofNat (kept (hdN (seg (bytesL [.int .u8 (Int.ofNat 4)]) 0 1)))), .int .u8 (Int.ofNat 0), .int .u8 (Int.ofNat 0), .int .u32 (Int.ofNat 0), .int .u8 (Int.ofNat 0), .slice none 0 (some 0), .slice none 0 (some 0)], .int .i64 (Int.ofNat 0)], h') ∧ [0].map h'.get = [.cells true 5 1 [.int .u8 (Int.ofNat 4)]] :=
 call_runZ (q := qNs [36,1,1,1,1,1,1,5,1,1,1,1,5,1,1,1,1,17,1,10,1,1,1,35]) (c := (cnF :: cnF :: cnF :: cnF :: cnF :: cnF :: cnF :: cnF :: cnF :: cnF :: cnF :: cnF :: cnF :: cnF :: cnF :: cnF :: cnF :: cnF :: [])) (by kernel_rfl) ⟨h0, h1, h2, h3, h4, h5, h6, h6, h6, h6, h6, h6, h6, h7, h7, h7, h7, h8, trivial⟩
theorem Pc_0 (h0 : (ieqB (Int.ofNat (kept (hdN (seg (bytesL []) 0 0)))) (Int.ofNat 1)) = false) (h1 : (ieqB (Int.ofNat (kept (hdN (seg (bytesL []) 0 0)))) (Int.ofNat 2)) = false) (h2 : (ieqB (Int.ofNat (kept (hdN (seg (bytesL []) 0 0)))) (Int.ofNat 3)) = false) (h3 : (ieqB (Int.ofNat (kept (hdN (seg (bytesL []) 0 0)))) (Int.ofNat 5)) = false) (h4 : (ieqB (Int.ofNat (kept (hdN (seg (bytesL []) 0 0)))) (Int.ofNat 6)) = false) (h5 : (ieqB (Int.ofNat (kept (hdN (seg (bytesL []) 0 0)))) (Int.ofNat 7)) = false) (h6 : (!(AV.bool (kept false)).boolOf) = true) :
 ∃ h', aCall C10q 60 (Tgt.fn 60) [.slice (some (0, 0)) 0 (some 0)] (mkL [.cells true 5 0 []]) = some (AV.tuple [.agg [.int .u8 (Int.ofNat 0), .int .u8 (Int.ofNat 0), .int .u8 (Int.ofNat 0), .int .u32 (Int.ofNat 0), .int .u8 (Int.ofNat 0), .slice none 0 (some 0), .slice none 0 (some 0)], .int .i64 (Int.ofNat 3)], h') ∧ [0].map h'.get = [.cells true 5 0 []] :=
 call_runZ (q := qNs [36,1,1,1,1,1,1,5,0,0,0,0,0,0,0,25]) (c := (cnF :: cnF :: cnF :: cnF :: cnF :: cnF :: cnT :: cnT :: cnT :: cnT :: cnT :: cnT :: cnT :: [])) (by kernel_rfl) ⟨h0, h1, h2, h3, h4, h5, h6, h6, h6, h6, h6, h6, h6, trivial⟩
theorem par_c4 : ∃ h', aCall C10q 60 (.fn 60) [.slice (some (0, 0)) 1 (some 1)] (mkL [.cells true 5 1 [.int .u8 (Int.ofNat 4)]]) = some (.tuple [.agg [.int .u8 (Int.ofNat 4), .int .u8 (Int.ofNat 0), .int .u8 (Int.ofNat 0), .int .u32 (Int.ofNat 0), .int .u8 (Int.ofNat 0), .slice none 0 (some 0), .slice none 0 (some 0)], .int .i64 (Int.ofNat 0)], h') ∧ h'.get 0 = .cells true 5 1 [.int .u8 (Int.ofNat 4)] := by
 have e4 : hdN (seg (bytesL [AV.int IntKind.u8 (Int.ofNat 4)]) 0 1) = 4 := by
  rw [show [AV.int IntKind.u8 (Int.ofNat 4)] = ofBytes [4] from rfl, bytesL_ofBytes]; rfl
 obtain ⟨h', h, hb⟩ := Pc_4 (by rw [kept_eq, e4]; rfl) (by rw [kept_eq, e4]; rfl) (by rw [kept_eq, e4]; rfl) (by rw [kept_eq, e4]; rfl) (by rw [kept_eq, e4]; rfl) (by rw [kept_eq, e4]; rfl) (by rw [kept_eq]; rfl) (by rw [kept_eq]; rfl) (by
  rw [kept_eq, kept_eq, e4, rightB_so (by decide)]; rfl)
 rw [kept_eq, e4] at h
 injection hb with g0 _
 exact ⟨h', h, g0⟩
theorem par_c0 : ∃ h', aCall C10q 60 (.fn 60) [.slice (some (0, 0)) 0 (some 0)] (mkL [.cells true 5 0 []]) = some (.tuple [.agg [.int .u8 (Int.ofNat 0), .int .u8 (Int.ofNat 0), .int .u8 (Int.ofNat 0), .int .u32 (Int.ofNat 0), .int .u8 (Int.ofNat 0), .slice none 0 (some 0), .slice none 0 (some 0)], .int .i64 (Int.ofNat 3)], h') ∧ h'.get 0 = .cells true 5 0 [] := by
 have e4 : hdN (seg (bytesL []) 0 0) = 0 := rfl
 obtain ⟨h', h, hb⟩ := Pc_0 (by rw [kept_eq, e4]; rfl) (by rw [kept_eq, e4]; rfl) (by rw [kept_eq, e4]; rfl) (by rw [kept_eq, e4]; rfl) (by rw [kept_eq, e4]; rfl) (by rw [kept_eq, e4]; rfl) (by rw [kept_eq]; rfl)
 injection hb with g0 _
 exact ⟨h', h, g0⟩
theorem paG_ok : ZSum.Sound Try.prog tys (flOf tys) 60 ⟨[], fun us bs => paG (us, bs)⟩ := by
 refine ZSum.soundGZ (cxZ cx_goes) all10q (fun us bs c v bs' hm hc hin => ?_)
 have hm : paG (us, bs) = some (c, v, bs') := hm
 unfold paG at hm
 split at hm
 · rename_i n N cs he
   injection he with he1 he2
   subst he1; subst he2
   injection hm with hm; injection hm with e1 hm; injection hm with e2 e3
   simp only [allTrue_cons, ← e1] at hc
   obtain ⟨c1, c2, c3, c4, c5, _⟩ := hc
   obtain ⟨w, rfl⟩ := u8L_iff.1 c1
   have c2 := eq_of_beq' c2
   have c3 := eq_of_beq' c3
   rw [ofBytes_length] at c2
   subst c3; subst c2
   rw [bytesL_ofBytes] at c5 e2
   have := (par_all w (Nat.le_of_ble_eq_true c4)).1 c5
   rw [← e2]
   exact okg_of (ofBytes_plainL _) e3.symm this
 · rename_i he
   injection he with he1 he2
   subst he1; subst he2
   injection hm with hm; injection hm with e1 hm; injection hm with e2 e3
   rw [← e2]
   obtain ⟨h', h, g0⟩ := par_c4
   exact okg_of rfl e3.symm ⟨60, _, h', _, h, rfl, rfl, g0⟩
 · cases hm
theorem paB_ok : ZSum.Sound Try.prog tys (flOf tys) 60 ⟨[], fun us bs => paB (us, bs)⟩ := by
 refine ZSum.soundGZ (cxZ cx_goes) all10q (fun us bs c v bs' hm hc hin => ?_)
 have hm : paB (us, bs) = some (c, v, bs') := hm
 unfold paB at hm
 split at hm
 · rename_i n N cs he
   injection he with he1 he2
   subst he1; subst he2
   injection hm with hm; injection hm with e1 hm; injection hm with e2 e3
   simp only [allTrue_cons, ← e1] at hc
   obtain ⟨c1, c2, c3, c4, c5, _⟩ := hc
   obtain ⟨w, rfl⟩ := u8L_iff.1 c1
   have c2 := eq_of_beq' c2
   have c3 := eq_of_beq' c3
   rw [ofBytes_length] at c2
   subst c3; subst c2
   rw [bytesL_ofBytes] at c5
   have := (par_all w (Nat.le_of_ble_eq_true c4)).2 (by simpa using c5)
   rw [← e2]
   exact okg_of (ofBytes_plainL _) e3.symm this
 · rename_i he
   injection he with he1 he2
   subst he1; subst he2
   injection hm with hm; injection hm with e1 hm; injection hm with e2 e3
   rw [← e2]
   obtain ⟨h', h, g0⟩ := par_c0
   exact okg_of rfl e3.symm ⟨60, _, h', _, h, rfl, rfl, g0⟩
 · cases hm
abbrev T10s : TTab := [(46, (RSum.const (.bool true)).rt), (57, ⟨true, .node rTw (.node rT4 (.leaf bytes4.m) (.leaf bytesY.m)) (.leaf bytesN.m)⟩), (59, docR.rt)]
theorem T10s_ok : TOK Try.prog tys T10s := ⟨RSum.rt_sound lives24_ok, RT.sound (show (_ ∧ _) ∧ _ from ⟨⟨bytes4_ok, bytesY_ok⟩, bytesN_ok⟩), RSum.rt_sound docR_ok, trivial⟩
def K10s : Known := { t := T10s, f := [(58, .leaf refF)], z := [(60, parZ)], l := [((56, 0), fwL)] }
theorem K10s_ok : KOK Try.prog tys K10s := ⟨T10s_ok, ⟨refF_ok, trivial⟩, ⟨(show _ ∧ _ from ⟨paG_ok, paB_ok⟩), trivial⟩, trivial, ⟨fwL_ok, trivial⟩⟩
abbrev C10s := mkCxZ tys fns K10s
theorem all10s : SumAll Try.prog C10s := sums_allZ K10s_ok
end Go.Proofs.Ytecncappdnhbaaa
end
end

section
noncomputable section
namespace Go.Ab
open M
theorem tkB_app (l r : List UInt8) (n : Nat) (h : l.length = n) : tkB n (l ++ r) = l := by
 unfold tkB; rw [if_pos (by rw [List.length_append]; omega)]
 rw [← h, List.take_left]
theorem rsB_app (l r : List UInt8) (n : Nat) (h : l.length = n) : rsB n (l ++ r) = r := by
 unfold rsB; rw [if_pos (by rw [List.length_append]; omega)]
 rw [← h, List.drop_left]
theorem hdN_cons (b : UInt8) (r : List UInt8) : hdN (b :: r) = b.toNat := by
 unfold hdN hdU
 rw [show b :: r = [b] ++ r from rfl, tkB_app [b] r 1 rfl]; rfl
theorem rsB_cons (b : UInt8) (r : List UInt8) : rsB 1 (b :: r) = r := rsB_app [b] r 1 rfl
theorem nuB_put (x : UInt32) (r : List UInt8) : nuB (putB 4 x.toNat ++ r) = x := by
 unfold nuB
 rw [tkB_app _ r 4 (putB_length 4 _), getN_putB 4 x.toNat (by have := x.toNat_lt; exact this), UInt32.ofNat_toNat]
theorem numN_put (n : Nat) (h : n < 4294967296) (r : List UInt8) : numN (putB 4 n ++ r) = n := by
 unfold numN
 rw [nuB_nat, tkB_app _ r 4 (putB_length 4 _), getN_putB 4 n (by exact h)]
theorem pst_body (op : Int) (zs : List UInt32) (ss : List (List UInt8)) (h1 : op = 2 → zs.length = ss.length) (h2 : op = 2 → ∀ d ∈ ss, d.length = 440) :
 ∀ i, i ≤ zs.length → pst op (bodyB op zs ss) true i = (bodyB op (zs.drop i) (ss.drop i), true, zs.take i, if op = 2 then ss.take i else [])
 | 0, _ => by simp [pst]
 | i + 1, hi => by
  have ih := pst_body op zs ss h1 h2 i (by omega)
  obtain ⟨x, hx⟩ : ∃ x, zs[i]? = some x := ⟨_, List.getElem?_eq_getElem (by omega)⟩
  have hz : zs.drop i = x :: zs.drop (i + 1) := by
   obtain ⟨hlt, hv⟩ := List.getElem?_eq_some_iff.1 hx
   rw [← hv]; exact List.drop_eq_getElem_cons hlt
  have tk : zs.take (i + 1) = zs.take i ++ [x] := by rw [List.take_add_one, hx]; rfl
  have p4 : (putB 4 x.toNat).length = 4 := putB_length 4 _
  simp only [pst, ih, hz]
  by_cases ho : op = 2
  · obtain ⟨y, hy⟩ : ∃ y, ss[i]? = some y := ⟨_, List.getElem?_eq_getElem (by have := h1 ho; omega)⟩
    have hs : ss.drop i = y :: ss.drop (i + 1) := by
     obtain ⟨hlt, hv⟩ := List.getElem?_eq_some_iff.1 hy
     rw [← hv]; exact List.drop_eq_getElem_cons hlt
    have y4 : y.length = 440 := h2 ho y (List.mem_of_getElem? hy)
    have eb : bodyB op (x :: zs.drop (i + 1)) (ss.drop i) = putB 4 x.toNat ++ (y ++ bodyB op (zs.drop (i + 1)) (ss.drop (i + 1))) := by
     rw [hs]
     show putB 4 x.toNat ++ ((if op = 2 then y else []) ++ bodyB op _ (ss.drop (i + 1))) = _
     rw [if_pos ho]
    have tk2 : ss.take (i + 1) = ss.take i ++ [y] := by rw [List.take_add_one, hy]; rfl
    rw [eb, if_pos ho, rsB_app _ _ 4 p4, rsB_app _ _ 440 y4, nuB_put, tkB_app _ _ 440 y4, tk, tk2]
    simp only [if_pos ho, Prod.mk.injEq, true_and, and_true]
    rw [Bool.and_eq_true, Bool.and_eq_true]
    refine ⟨⟨rfl, Nat.ble_eq_true_of_le ?_⟩, Nat.ble_eq_true_of_le ?_⟩
    · rw [List.length_append, p4]; omega
    · rw [List.length_append, y4]; omega
  · have eb : bodyB op (x :: zs.drop (i + 1)) (ss.drop i) = putB 4 x.toNat ++ bodyB op (zs.drop (i + 1)) (ss.drop (i + 1)) := by
     show putB 4 x.toNat ++ ((if op = 2 then (ss.drop i).headD [] else []) ++ bodyB op _ (ss.drop i).tail) = _
     rw [if_neg ho, List.tail_drop]; rfl
    rw [eb, if_neg ho, rsB_app _ _ 4 p4, nuB_put, tk]
    simp only [if_neg ho, Prod.mk.injEq, true_and, and_true]
    rw [Bool.and_eq_true]
    refine ⟨rfl, Nat.ble_eq_true_of_le ?_⟩
    rw [List.length_append, p4]; omega
theorem okD_enD {ds : List (Bool × List UInt8)} : okD p440 (enD (ds.map Prod.snd)) = okD p440 (encD ds) := by
 unfold okD enD encD
 rw [List.all_map, List.all_map, List.all_map, List.all_map]
 rfl
theorem u8_back (x : Int) (h0 : 0 ≤ x) (h1 : x < 256) : (UInt8.ofNat x.toNat).toNat = x.toNat := by
 rw [UInt8.toNat_ofNat']; omega
set_option maxHeartbeats 1000000 in
theorem parS_req {op sub pl fi ct : Int} {zs : List UInt32} {ds : List (Bool × List UInt8)} (h : rightB op sub pl fi ct zs.length ds.length (encD ds) = true) (s0 : 0 ≤ sub) (p0 : 0 ≤ pl) (p1 : pl ≤ 255) (f0 : 0 ≤ fi) (f1 : fi < 4294967296) :
 hdN (reqB op sub pl fi ct zs (ds.map Prod.snd)) = op.toNat ∧ parS (reqB op sub pl fi ct zs (ds.map Prod.snd)) = ⟨true, [], sub.toNat, pl.toNat, fi.toNat, ct.toNat, zs, ds.map Prod.snd⟩ := by
 unfold rightB at h
 rw [Bool.and_eq_true, decide_eq_true_eq] at h
 obtain ⟨hP, hD⟩ := h
 unfold RightP at hP
 have nz : ∀ {α : Type} (l : List α), l.length = 0 → l = [] := fun l h => List.eq_nil_of_length_eq_zero h
 have ob := u8_back op (by omega) (by omega)
 by_cases h1 : op = 1
 · have z0 := nz zs (by omega)
   have d0 := nz ds (by omega)
   subst z0; subst d0
   have cb := u8_back ct (by omega) (by omega)
   have p4 : (putB 4 fi.toNat).length = 4 := putB_length 4 _
   have eq : reqB op sub pl fi ct [] (([] : List (Bool × List UInt8)).map Prod.snd) = UInt8.ofNat op.toNat :: (putB 4 fi.toNat ++ [UInt8.ofNat ct.toNat]) := by unfold reqB; rw [if_pos h1]
   rw [eq]
   have hd : hdN (UInt8.ofNat op.toNat :: (putB 4 fi.toNat ++ [UInt8.ofNat ct.toNat])) = op.toNat := by rw [hdN_cons, ob]
   refine ⟨hd, ?_⟩
   unfold parS
   simp only [hd, if_pos (show op.toNat = 1 by omega), rsB_cons, rsB_app _ _ 4 p4, numN_put _ (show fi.toNat < 4294967296 by omega), hdN_cons, cb]
   rw [show sub.toNat = 0 by omega, show pl.toNat = 0 by omega]
   rw [show Nat.ble 4 (putB 4 fi.toNat ++ [UInt8.ofNat ct.toNat]).length = true by rw [List.length_append, p4]; rfl]
   rfl
 by_cases h23 : op = 2 ∨ op = 3
 · have zb : (UInt8.ofNat zs.length).toNat = zs.length := by rw [UInt8.toNat_ofNat']; omega
   have eq : reqB op sub pl fi ct zs (ds.map Prod.snd) = UInt8.ofNat op.toNat :: UInt8.ofNat zs.length :: bodyB op zs (ds.map Prod.snd) := by unfold reqB; rw [if_neg h1, if_pos h23]; rfl
   rw [eq]
   have hd : hdN (UInt8.ofNat op.toNat :: UInt8.ofNat zs.length :: bodyB op zs (ds.map Prod.snd)) = op.toNat := by rw [hdN_cons, ob]
   refine ⟨hd, ?_⟩
   have key := pst_body op zs (ds.map Prod.snd) (fun h => by rw [List.length_map]; omega) (fun h d hd => by
    obtain ⟨x, hx, rfl⟩ := List.mem_map.1 hd
    obtain ⟨i, hi⟩ := List.getElem?_of_mem hx
    exact eq_of_beq' (okD_at hD hi)) zs.length (Nat.le_refl _)
   rw [List.drop_length, List.take_length] at key
   have oi : Int.ofNat op.toNat = op := by simp only [Int.ofNat_eq_natCast]; omega
   unfold parS
   simp only [hd, if_neg (show op.toNat ≠ 1 by omega), if_pos (show op.toNat = 2 ∨ op.toNat = 3 by omega), rsB_cons, hdN_cons, zb, oi]
   have e1 : (Nat.ble 1 (UInt8.ofNat op.toNat :: UInt8.ofNat zs.length :: bodyB op zs (ds.map Prod.snd)).length && Nat.ble 1 (UInt8.ofNat zs.length :: bodyB op zs (ds.map Prod.snd)).length) = true := rfl
   rw [e1]
   unfold pK pR pA pD
   rw [key]
   have ed : (if op = 2 then (ds.map Prod.snd).take zs.length else []) = ds.map Prod.snd := by
    by_cases h2 : op = 2
    · rw [if_pos h2, List.take_of_length_le (by rw [List.length_map]; omega)]
    · rw [if_neg h2, nz ds (by omega)]; rfl
   simp only [ed, PQ.mk.injEq, and_true, true_and]
   refine ⟨?_, by omega, by omega, by omega, by omega⟩
   rfl
 have z0 := nz zs (by omega)
 have d0 := nz ds (by omega)
 subst z0; subst d0
 by_cases h4 : op = 4
 · have eq : reqB op sub pl fi ct [] (([] : List (Bool × List UInt8)).map Prod.snd) = [UInt8.ofNat op.toNat] := by unfold reqB; rw [if_neg h1, if_neg h23, if_pos h4]
   rw [eq]
   have hd : hdN [UInt8.ofNat op.toNat] = op.toNat := by rw [hdN_cons, ob]
   refine ⟨hd, ?_⟩
   unfold parS
   simp only [hd, if_neg (show op.toNat ≠ 1 by omega), if_neg (show ¬(op.toNat = 2 ∨ op.toNat = 3) by omega), if_neg (show ¬(op.toNat = 5 ∨ op.toNat = 6 ∨ op.toNat = 7) by omega), rsB_cons]
   rw [show sub.toNat = 0 by omega, show pl.toNat = 0 by omega, show fi.toNat = 0 by omega, show ct.toNat = 0 by omega]
   rfl
 · have eq : reqB op sub pl fi ct [] (([] : List (Bool × List UInt8)).map Prod.snd) = [UInt8.ofNat op.toNat, UInt8.ofNat sub.toNat, UInt8.ofNat pl.toNat] := by unfold reqB; rw [if_neg h1, if_neg h23, if_neg h4]
   rw [eq]
   have sb := u8_back sub (by omega) (by omega)
   have pb := u8_back pl (by omega) (by omega)
   have hd : hdN [UInt8.ofNat op.toNat, UInt8.ofNat sub.toNat, UInt8.ofNat pl.toNat] = op.toNat := by rw [hdN_cons, ob]
   refine ⟨hd, ?_⟩
   unfold parS
   simp only [hd, if_neg (show op.toNat ≠ 1 by omega), if_neg (show ¬(op.toNat = 2 ∨ op.toNat = 3) by omega), if_pos (show op.toNat = 5 ∨ op.toNat = 6 ∨ op.toNat = 7 by omega), rsB_cons, hdN_cons, sb, pb]
   rw [show fi.toNat = 0 by omega, show ct.toNat = 0 by omega]
   rfl
end Go.Ab
end
end

section
noncomputable section
namespace Go.Ab
open M
theorem datB_enD (l : List (List UInt8)) : datB (enD l) = l := by
 unfold datB enD; rw [rowsD_encD, List.map_map]
 conv => rhs; rw [← List.map_id l]
 exact List.map_congr_left fun x _ => rfl
theorem okT_okD (ds : List (Bool × List UInt8)) : okT p440 (encS (ds.map Prod.snd)) = okD p440 (encD ds) := by
 unfold okT okD encS encD
 rw [List.all_map, List.all_map, List.all_map]; rfl
theorem docB_yes {op sub pl fi ct : Int} {zs : List UInt32} {ds : List (Bool × List UInt8)} (h : rightB op sub pl fi ct zs.length ds.length (encD ds) = true) : docB op sub pl fi ct zs.length ds.length zs (ds.map Prod.snd) = reqB op sub pl fi ct zs (ds.map Prod.snd) := by
 unfold rightB at h
 rw [Bool.and_eq_true, decide_eq_true_eq] at h
 unfold docB; rw [if_pos ⟨h.1, by rw [okT_okD]; exact h.2⟩]
theorem docB_none {op sub pl fi ct : Int} {zs : List UInt32} {ds : List (Bool × List UInt8)} (h : rightB op sub pl fi ct zs.length ds.length (encD ds) = false) : docB op sub pl fi ct zs.length ds.length zs (ds.map Prod.snd) = [] := by
 unfold docB
 rw [if_neg]
 rintro ⟨h1, h2⟩
 rw [okT_okD] at h2
 unfold rightB at h
 rw [decide_eq_true h1, h2] at h
 cases h
theorem reqB_ne (op sub pl fi ct : Int) (zs : List UInt32) (ss : List (List UInt8)) : bytesEq (reqB op sub pl fi ct zs ss) [] = false := by
 have : reqB op sub pl fi ct zs ss ≠ [] := by
  unfold reqB
  split
  · simp
  · split
    · simp
    · split <;> simp
 rw [bytesEq_eq]; exact beq_eq_false_iff_ne.2 this
theorem right_enD {op sub pl fi ct : Int} {zs : List UInt32} {ds : List (Bool × List UInt8)} : rightB op sub pl fi ct zs.length ds.length (enD (ds.map Prod.snd)) = rightB op sub pl fi ct zs.length ds.length (encD ds) := by
 unfold rightB; rw [okD_enD]
theorem intN (x : Int) (h : 0 ≤ x) : Int.ofNat x.toNat = x := by simp only [Int.ofNat_eq_natCast]; omega
end Go.Ab
namespace Go.Proofs.Ytecncappdnhbaaa
open Go.Ab.M Go.Ab Go
section
variable (op sub pl fi ct : Int) (ln dn : Nat) (lv dv : List AV)
abbrev zo : List AV := (kept (ofBytes (reqB op sub pl fi ct (numsU lv) (datB dv))))
abbrev zw : List UInt8 := (bytesL (kept (ofBytes (reqB op sub pl fi ct (numsU lv) (datB dv)))))
abbrev zd : List UInt8 := (kept (docB op sub pl fi ct ln dn (numsU (kept (encU IntKind.u64 (numsU lv)))) (strsS (kept (encS (datB dv))))))
end
theorem lw_f (op sub pl fi ct : Int) (la : Bool) (ln : Nat) (lv : List AV) (da : Bool) (dn : Nat) (dv : List AV) (h0 : (okD p450 dv) = false) (h1 : (AV.plainL dv) = true) (h2 : (AV.plainL lv) = true) (h3 : (isD dv) = true) (h4 : (dv.length.beq dn) = true) (h5 : (dn.beq dn) = true) (h6 : (dn.ble 9223372036854775807) = true) (h7 : (!okD p450 dv) = true) :
 ∃ h', aCall C10s 60 (Tgt.fn 13) [.agg [.int .u8 op, .int .u8 sub, .int .u8 pl, .int .u32 fi, .int .u8 ct, .fsl la ln lv, .fsl da dn dv]] H0 = some (AV.bool true, h') ∧ [].map h'.get = [] :=
 call_runZ (q := qNs [22,1,7,0,3,0,0,3,0,3,0,0,0,0,0,3,0,0,0,0,4,0,3,0,0,5]) (c := (Cnd.code (ZLT.lsumS (flOf tys) ((56, 0), fwL).snd).fst (ZLT.lsumS (flOf tys) ((56, 0), fwL).snd).fst :: cnF :: cnT :: cnT :: cnT :: cnT :: cnT :: cnT :: cnT :: cnT :: cnT :: cnT :: cnT :: cnT :: cnT :: cnT :: cnT :: cnT :: [])) (by kernel_rfl) ⟨rfl, h0, h1, h2, h1, h1, h2, h1, h3, h4, h5, h6, h7, h2, h1, h1, h2, h1, trivial⟩
theorem lw_tf (op sub pl fi ct : Int) (la : Bool) (ln : Nat) (lv : List AV) (da : Bool) (dn : Nat) (dv : List AV) (h0 : (okD p450 dv) = true) (h1 : (AV.plainL dv) = true) (h2 : (AV.plainL lv) = true) (h3 : (isD dv) = true) (h4 : (dv.length.beq dn) = true) (h5 : (dn.beq dn) = true) (h6 : (dn.ble 9223372036854775807) = true) (h7 : (ileB (Int.ofNat ln) (Int.ofNat 20)) = false) :
 ∃ h', aCall C10s 60 (Tgt.fn 13) [.agg [.int .u8 op, .int .u8 sub, .int .u8 pl, .int .u32 fi, .int .u8 ct, .fsl la ln lv, .fsl da dn dv]] H0 = some (AV.bool true, h') ∧ [].map h'.get = [] :=
 call_runZ (q := qNs [22,0,7,0,3,0,0,3,0,3,0,0,0,0,0,3,0,0,0,0,4,0,3,0,0,5,1,1,1,1,1,5]) (c := (Cnd.code (ZLT.lsumS (flOf tys) ((56, 0), fwL).snd).fst (ZLT.lsumS (flOf tys) ((56, 0), fwL).snd).fst :: cnT :: cnT :: cnT :: cnT :: cnT :: cnT :: cnT :: cnT :: cnT :: cnT :: cnT :: cnT :: cnT :: cnT :: cnT :: cnT :: cnT :: cnF :: cnF :: cnF :: cnF :: cnF :: [])) (by kernel_rfl) ⟨rfl, h0, h1, h2, h1, h1, h2, h1, h3, h4, h5, h6, h0, h2, h1, h1, h2, h1, h7, h7, h7, h7, h7, trivial⟩
theorem lw_ttt (op sub pl fi ct : Int) (la : Bool) (ln : Nat) (lv : List AV) (da : Bool) (dn : Nat) (dv : List AV) (h0 : (okD p450 dv) = true) (h1 : (AV.plainL dv) = true) (h2 : (AV.plainL lv) = true) (h3 : (isD dv) = true) (h4 : (dv.length.beq dn) = true) (h5 : (dn.beq dn) = true) (h6 : (dn.ble 9223372036854775807) = true) (h7 : (ileB (Int.ofNat ln) (Int.ofNat 20)) = true) (h8 : (!ileB (Int.ofNat dn) (Int.ofNat 20)) = true) :
 ∃ h', aCall C10s 60 (Tgt.fn 13) [.agg [.int .u8 op, .int .u8 sub, .int .u8 pl, .int .u32 fi, .int .u8 ct, .fsl la ln lv, .fsl da dn dv]] H0 = some (AV.bool true, h') ∧ [].map h'.get = [] :=
 call_runZ (q := qNs [22,0,7,0,3,0,0,3,0,3,0,0,0,0,0,3,0,0,0,0,4,0,3,0,0,5,0,0,5,0,0,0,4,0]) (c := (Cnd.code (ZLT.lsumS (flOf tys) ((56, 0), fwL).snd).fst (ZLT.lsumS (flOf tys) ((56, 0), fwL).snd).fst :: cnT :: cnT :: cnT :: cnT :: cnT :: cnT :: cnT :: cnT :: cnT :: cnT :: cnT :: cnT :: cnT :: cnT :: cnT :: cnT :: cnT :: cnT :: cnT :: cnT :: cnT :: cnT :: cnT :: [])) (by kernel_rfl) ⟨rfl, h0, h1, h2, h1, h1, h2, h1, h3, h4, h5, h6, h0, h2, h1, h1, h2, h1, h7, h7, h7, h7, h7, h8, trivial⟩
theorem lw_ttffff (op sub pl fi ct : Int) (la : Bool) (ln : Nat) (lv : List AV) (da : Bool) (dn : Nat) (dv : List AV) (h0 : (okD p450 dv) = true) (h1 : (AV.plainL dv) = true) (h2 : (AV.plainL lv) = true) (h3 : (isD dv) = true) (h4 : (dv.length.beq dn) = true) (h5 : (dn.beq dn) = true) (h6 : (dn.ble 9223372036854775807) = true) (h7 : (ileB (Int.ofNat ln) (Int.ofNat 20)) = true) (h8 : (!ileB (Int.ofNat dn) (Int.ofNat 20)) = false) (h9 : (kept (rightB op sub pl fi ct ln dn dv)) = false) (h10 : (ileB (Int.ofNat 0) sub) = true) (h11 : (ileB (Int.ofNat 0) pl) = true) (h12 : (ileB pl (Int.ofNat 255)) = true) (h13 : (ileB (Int.ofNat 0) ct) = true) (h14 : (ileB ct (Int.ofNat 255)) = true) (h15 : (ileB (Int.ofNat 0) fi) = true) (h16 : (iltB fi (Int.ofNat 4294967296)) = true) (h17 : (isU IntKind.u32 lv) = true) (h18 : (lv.length.beq ln) = true) (h19 : (dn.ble 1000000) = true) (h20 : (!rightB op sub pl fi ct ln dn dv) = true) (h21 : (ln.ble 900) = true) (h22 : (dn.ble 900) = true) (h23 : (AV.plainL (kept (encU IntKind.u64 (numsU lv)))) = true) (h24 : (AV.plainL (kept (encS (datB dv)))) = true) (h25 : (ileB (Int.ofNat 0) op) = true) (h26 : (isU IntKind.u64 (kept (encU IntKind.u64 (numsU lv)))) = true) (h27 : ((kept (encU IntKind.u64 (numsU lv))).length.beq ln) = true) (h28 : (ln.ble 1000000) = true) (h29 : (isS (kept (encS (datB dv)))) = true) (h30 : ((kept (encS (datB dv))).length.beq dn) = true) (h31 : (!bytesEq [] (zd op sub pl fi ct ln dn lv dv)) = false) (h32 : (!false == !bytesEq (zd op sub pl fi ct ln dn lv dv) []) = false) :
 ∃ h', aCall C10s 60 (Tgt.fn 13) [.agg [.int .u8 op, .int .u8 sub, .int .u8 pl, .int .u32 fi, .int .u8 ct, .fsl la ln lv, .fsl da dn dv]] H0 = some (AV.bool true, h') ∧ [].map h'.get = [] :=
 call_runZ (q := qNs [22,0,7,0,3,0,0,3,0,3,0,0,0,0,0,3,0,0,0,0,4,0,3,0,0,5,0,0,5,0,0,0,4,1,17,1,0,0,0,0,0,0,0,0,0,0,0,0,0,0,0,17,0,0,0,0,0,0,0,0,0,0,0,0,0,0,0,0,0,0,0,0,0,0,0,0,1,1,1,1,1,1,1,1,1,4,1,3,1,4]) (c := (Cnd.code (ZLT.lsumS (flOf tys) ((56, 0), fwL).snd).fst (ZLT.lsumS (flOf tys) ((56, 0), fwL).snd).fst :: cnT :: cnT :: cnT :: cnT :: cnT :: cnT :: cnT :: cnT :: cnT :: cnT :: cnT :: cnT :: cnT :: cnT :: cnT :: cnT :: cnT :: cnT :: cnT :: cnT :: cnT :: cnT :: cnF :: cnF :: cnT :: cnT :: cnT :: cnT :: cnT :: cnT :: cnT :: cnT :: cnT :: cnT :: cnT :: cnT :: cnT :: cnT :: cnT :: cnT :: cnT :: cnT :: cnT :: cnT :: cnT :: cnT :: cnT :: cnT :: cnT :: cnT :: cnT :: cnT :: cnT :: cnT :: cnT :: cnT :: cnT :: cnT :: cnT :: cnT :: cnT :: cnT :: cnT :: cnF :: cnF :: cnF :: cnF :: cnF :: cnF :: cnF :: cnF :: cnF :: cnF :: cnF :: [])) (by kernel_rfl) ⟨rfl, h0, h1, h2, h1, h1, h2, h1, h3, h4, h5, h6, h0, h2, h1, h1, h2, h1, h7, h7, h7, h7, h7, h8, h9, h2, h1, h10, h11, h12, h13, h14, h15, h16, h17, h18, h3, h4, h19, h20, h2, h1, h15, h16, h17, h18, h21, h3, h4, h22, h23, h24, h25, h10, h11, h13, h15, h16, h26, h27, h28, h29, h30, h19, h31, h31, h31, h31, h31, h31, h32, h32, h32, h32, h32, trivial⟩
theorem lw_ttfttff (op sub pl fi ct : Int) (la : Bool) (ln : Nat) (lv : List AV) (da : Bool) (dn : Nat) (dv : List AV) (h0 : (okD p450 dv) = true) (h1 : (AV.plainL dv) = true) (h2 : (AV.plainL lv) = true) (h3 : (isD dv) = true) (h4 : (dv.length.beq dn) = true) (h5 : (dn.beq dn) = true) (h6 : (dn.ble 9223372036854775807) = true) (h7 : (ileB (Int.ofNat ln) (Int.ofNat 20)) = true) (h8 : (!ileB (Int.ofNat dn) (Int.ofNat 20)) = false) (h9 : (kept (rightB op sub pl fi ct ln dn dv)) = true) (h10 : (ieqB op (Int.ofNat 4)) = true) (h11 : (ileB (Int.ofNat 0) sub) = true) (h12 : (ileB (Int.ofNat 0) pl) = true) (h13 : (ileB pl (Int.ofNat 255)) = true) (h14 : (ileB (Int.ofNat 0) ct) = true) (h15 : (ileB ct (Int.ofNat 255)) = true) (h16 : (ileB (Int.ofNat 0) fi) = true) (h17 : (iltB fi (Int.ofNat 4294967296)) = true) (h18 : (isU IntKind.u32 lv) = true) (h19 : (lv.length.beq ln) = true) (h20 : (dn.ble 1000000) = true) (h21 : (rightB op sub pl fi ct ln dn dv) = true) (h22 : (ln.ble 900) = true) (h23 : (dn.ble 900) = true) (h24 : (AV.plainL (kept (encU IntKind.u64 (numsU lv)))) = true) (h25 : (AV.plainL (kept (encS (datB dv)))) = true) (h26 : (ileB (Int.ofNat 0) op) = true) (h27 : (isU IntKind.u64 (kept (encU IntKind.u64 (numsU lv)))) = true) (h28 : ((kept (encU IntKind.u64 (numsU lv))).length.beq ln) = true) (h29 : (ln.ble 1000000) = true) (h30 : (isS (kept (encS (datB dv)))) = true) (h31 : ((kept (encS (datB dv))).length.beq dn) = true) (h32 : (!bytesEq [UInt8.ofNat 4] (zd op sub pl fi ct ln dn lv dv)) = false) (h33 : (!true == !bytesEq (zd op sub pl fi ct ln dn lv dv) []) = false) (h34 : (AV.plainL (kept (encU IntKind.u64 (numsU [])))) = true) (h35 : (AV.plainL (kept (encS (datB [])))) = true) (h36 : (isU IntKind.u64 (kept (encU IntKind.u64 (numsU [])))) = true) (h37 : ((kept (encU IntKind.u64 (numsU []))).length.beq 0) = true) (h38 : (isS (kept (encS (datB [])))) = true) (h39 : ((kept (encS (datB []))).length.beq 0) = true) :
 ∃ h', aCall C10s 60 (Tgt.fn 13) [.agg [.int .u8 op, .int .u8 sub, .int .u8 pl, .int .u32 fi, .int .u8 ct, .fsl la ln lv, .fsl da dn dv]] H0 = some (AV.bool (bytesEq (kept (docB (Int.ofNat 4) (Int.ofNat 0) (Int.ofNat 0) (Int.ofNat 0) (Int.ofNat 0) 0 0 (numsU (kept (encU IntKind.u64 (numsU [])))) (strsS (kept (encS (datB [])))))) (zd op sub pl fi ct ln dn lv dv)), h') ∧ [].map h'.get = [] :=
 call_runZ (q := qNs [22,0,7,0,3,0,0,3,0,3,0,0,0,0,0,3,0,0,0,0,4,0,3,0,0,5,0,0,5,0,0,0,4,1,17,0,0,0,0,0,0,0,0,0,0,0,0,0,0,0,0,0,0,17,0,0,0,0,0,0,0,0,0,0,0,0,0,0,0,0,0,0,0,0,0,0,0,0,4,1,1,1,1,1,1,1,1,1,4,1,3,1,50,0,0,8,0,0,3,0,0,6]) (c := (Cnd.code (ZLT.lsumS (flOf tys) ((56, 0), fwL).snd).fst (ZLT.lsumS (flOf tys) ((56, 0), fwL).snd).fst :: cnT :: cnT :: cnT :: cnT :: cnT :: cnT :: cnT :: cnT :: cnT :: cnT :: cnT :: cnT :: cnT :: cnT :: cnT :: cnT :: cnT :: cnT :: cnT :: cnT :: cnT :: cnT :: cnF :: cnT :: cnT :: cnT :: cnT :: cnT :: cnT :: cnT :: cnT :: cnT :: cnT :: cnT :: cnT :: cnT :: cnT :: cnT :: cnT :: cnT :: cnT :: cnT :: cnT :: cnT :: cnT :: cnT :: cnT :: cnT :: cnT :: cnT :: cnT :: cnT :: cnT :: cnT :: cnT :: cnT :: cnT :: cnT :: cnT :: cnT :: cnT :: cnT :: cnT :: cnT :: cnT :: cnF :: cnF :: cnF :: cnF :: cnF :: cnF :: cnF :: cnF :: cnF :: cnF :: cnF :: cnT :: cnT :: cnT :: cnT :: cnT :: cnT :: [])) (by kernel_rfl) ⟨rfl, h0, h1, h2, h1, h1, h2, h1, h3, h4, h5, h6, h0, h2, h1, h1, h2, h1, h7, h7, h7, h7, h7, h8, h9, h10, h2, h1, h11, h12, h13, h14, h15, h16, h17, h18, h19, h3, h4, h20, h21, h10, h2, h1, h16, h17, h18, h19, h22, h3, h4, h23, h24, h25, h26, h11, h12, h14, h16, h17, h27, h28, h29, h30, h31, h20, h32, h32, h32, h32, h32, h32, h33, h33, h33, h33, h33, h34, h35, h36, h37, h38, h39, trivial⟩
theorem lw_ttftffft (op sub pl fi ct : Int) (la : Bool) (ln : Nat) (lv : List AV) (da : Bool) (dn : Nat) (dv : List AV) (h0 : (okD p450 dv) = true) (h1 : (AV.plainL dv) = true) (h2 : (AV.plainL lv) = true) (h3 : (isD dv) = true) (h4 : (dv.length.beq dn) = true) (h5 : (dn.beq dn) = true) (h6 : (dn.ble 9223372036854775807) = true) (h7 : (ileB (Int.ofNat ln) (Int.ofNat 20)) = true) (h8 : (!ileB (Int.ofNat dn) (Int.ofNat 20)) = false) (h9 : (kept (rightB op sub pl fi ct ln dn dv)) = true) (h10 : (ieqB op (Int.ofNat 4)) = false) (h11 : (ileB (Int.ofNat 0) sub) = true) (h12 : (ileB (Int.ofNat 0) pl) = true) (h13 : (ileB pl (Int.ofNat 255)) = true) (h14 : (ileB (Int.ofNat 0) ct) = true) (h15 : (ileB ct (Int.ofNat 255)) = true) (h16 : (ileB (Int.ofNat 0) fi) = true) (h17 : (iltB fi (Int.ofNat 4294967296)) = true) (h18 : (isU IntKind.u32 lv) = true) (h19 : (lv.length.beq ln) = true) (h20 : (dn.ble 1000000) = true) (h21 : (rightB op sub pl fi ct ln dn dv) = true) (h22 : (!ieqB op (Int.ofNat 4)) = true) (h23 : (ln.ble 900) = true) (h24 : (dn.ble 900) = true) (h25 : (AV.plainL (kept (encU IntKind.u64 (numsU lv)))) = true) (h26 : (AV.plainL (kept (encS (datB dv)))) = true) (h27 : (ileB (Int.ofNat 0) op) = true) (h28 : (isU IntKind.u64 (kept (encU IntKind.u64 (numsU lv)))) = true) (h29 : ((kept (encU IntKind.u64 (numsU lv))).length.beq ln) = true) (h30 : (ln.ble 1000000) = true) (h31 : (isS (kept (encS (datB dv)))) = true) (h32 : ((kept (encS (datB dv))).length.beq dn) = true) (h33 : ((0 + kept (reqL op ln)).ble (kept (reqL op ln))) = true) (h34 : ((bytesOf (rowCut (zo op sub pl fi ct lv dv) 0 (kept (reqL op ln)))).isSome) = true) (h35 : (!bytesEq ((bytesOf (rowCut (zo op sub pl fi ct lv dv) 0 (kept (reqL op ln)))).getD []) (zd op sub pl fi ct ln dn lv dv)) = false) (h36 : (!true == !bytesEq (zd op sub pl fi ct ln dn lv dv) []) = false) (h37 : (kept (parOK (zw op sub pl fi ct lv dv))) = true) (h38 : (AV.plainL (zo op sub pl fi ct lv dv)) = true) (h39 : (u8L (zo op sub pl fi ct lv dv)) = true) (h40 : ((zo op sub pl fi ct lv dv).length.beq (kept (reqL op ln))) = true) (h41 : ((kept (reqL op ln)).beq (kept (reqL op ln))) = true) (h42 : ((kept (reqL op ln)).ble 100000) = true) (h43 : (parOK (zw op sub pl fi ct lv dv)) = true) (h44 : (AV.plainL (kept (encU IntKind.u32 (qA (zw op sub pl fi ct lv dv))))) = true) (h45 : (AV.plainL (kept (enD (qD (zw op sub pl fi ct lv dv))))) = true) (h46 : (iltB (AV.int IntKind.u32 (Int.ofNat (kept (qFi (zw op sub pl fi ct lv dv))))).intOf (Int.ofNat 4294967296)) = true) (h47 : (isU IntKind.u32 (kept (encU IntKind.u32 (qA (zw op sub pl fi ct lv dv))))) = true) (h48 : ((kept (encU IntKind.u32 (qA (zw op sub pl fi ct lv dv)))).length.beq (kept (qA (zw op sub pl fi ct lv dv)).length)) = true) (h49 : ((kept (qA (zw op sub pl fi ct lv dv)).length).ble 900) = true) (h50 : (isD (kept (enD (qD (zw op sub pl fi ct lv dv))))) = true) (h51 : ((kept (enD (qD (zw op sub pl fi ct lv dv)))).length.beq (kept (qD (zw op sub pl fi ct lv dv)).length)) = true) (h52 : ((kept (qD (zw op sub pl fi ct lv dv)).length).ble 900) = true) (h53 : (AV.plainL (kept (encU IntKind.u64 (numsU (kept (encU IntKind.u32 (qA (zw op sub pl fi ct lv dv)))))))) = true) (h54 : (AV.plainL (kept (encS (datB (kept (enD (qD (zw op sub pl fi ct lv dv)))))))) = true) (h55 : (isU IntKind.u64 (kept (encU IntKind.u64 (numsU (kept (encU IntKind.u32 (qA (zw op sub pl fi ct lv dv)))))))) = true) (h56 : ((kept (encU IntKind.u64 (numsU (kept (encU IntKind.u32 (qA (zw op sub pl fi ct lv dv))))))).length.beq (kept (qA (zw op sub pl fi ct lv dv)).length)) = true) (h57 : ((kept (qA (zw op sub pl fi ct lv dv)).length).ble 1000000) = true) (h58 : (isS (kept (encS (datB (kept (enD (qD (zw op sub pl fi ct lv dv)))))))) = true) (h59 : ((kept (encS (datB (kept (enD (qD (zw op sub pl fi ct lv dv))))))).length.beq (kept (qD (zw op sub pl fi ct lv dv)).length)) = true) (h60 : ((kept (qD (zw op sub pl fi ct lv dv)).length).ble 1000000) = true) :
 ∃ h', aCall C10s 60 (Tgt.fn 13) [.agg [.int .u8 op, .int .u8 sub, .int .u8 pl, .int .u32 fi, .int .u8 ct, .fsl la ln lv, .fsl da dn dv]] H0 = some (AV.bool (bytesEq (kept (docB (AV.int IntKind.u8 (Int.ofNat (kept (hdN (zw op sub pl fi ct lv dv))))).intOf (AV.int IntKind.u8 (Int.ofNat (kept (qSub (zw op sub pl fi ct lv dv))))).intOf (AV.int IntKind.u8 (Int.ofNat (kept (qPl (zw op sub pl fi ct lv dv))))).intOf (AV.int IntKind.u32 (Int.ofNat (kept (qFi (zw op sub pl fi ct lv dv))))).intOf (AV.int IntKind.u8 (Int.ofNat (kept (qCt (zw op sub pl fi ct lv dv))))).intOf (kept (qA (zw op sub pl fi ct lv dv)).length) (kept (qD (zw op sub pl fi ct lv dv)).length) (numsU (kept (encU IntKind.u64 (numsU (kept (encU IntKind.u32 (qA (zw op sub pl fi ct lv dv)))))))) (strsS (kept (encS (datB (kept (enD (qD (zw op sub pl fi ct lv dv)))))))))) (zd op sub pl fi ct ln dn lv dv)), h') ∧ [].map h'.get = [] :=
 call_runZ (q := qNs [22,0,7,0,3,0,0,3,0,3,0,0,0,0,0,3,0,0,0,0,4,0,3,0,0,5,0,0,5,0,0,0,4,1,17,0,1,0,0,0,0,0,0,0,0,0,0,0,0,0,0,0,0,17,0,0,0,0,0,0,0,0,0,0,0,0,0,0,0,0,0,0,0,0,0,0,0,0,0,0,1,1,1,1,1,1,1,1,1,4,1,3,1,4,0,7,0,4,0,0,0,0,0,0,3,0,0,3,0,22,0,0,3,0,0,0,0,0,0,0,3,0,0,7,0,0,0,0,0,0,0,5]) (c := (Cnd.code (ZLT.lsumS (flOf tys) ((56, 0), fwL).snd).fst (ZLT.lsumS (flOf tys) ((56, 0), fwL).snd).fst :: cnT :: cnT :: cnT :: cnT :: cnT :: cnT :: cnT :: cnT :: cnT :: cnT :: cnT :: cnT :: cnT :: cnT :: cnT :: cnT :: cnT :: cnT :: cnT :: cnT :: cnT :: cnT :: cnF :: cnT :: cnF :: cnT :: cnT :: cnT :: cnT :: cnT :: cnT :: cnT :: cnT :: cnT :: cnT :: cnT :: cnT :: cnT :: cnT :: cnT :: cnT :: cnT :: cnT :: cnT :: cnT :: cnT :: cnT :: cnT :: cnT :: cnT :: cnT :: cnT :: cnT :: cnT :: cnT :: cnT :: cnT :: cnT :: cnT :: cnT :: cnT :: cnT :: cnT :: cnT :: cnT :: cnT :: cnT :: cnF :: cnF :: cnF :: cnF :: cnF :: cnF :: cnF :: cnF :: cnF :: cnF :: cnF :: cnT :: cnT :: cnT :: cnT :: cnT :: cnT :: cnT :: cnT :: cnT :: cnT :: cnT :: cnT :: cnT :: cnT :: cnT :: cnT :: cnT :: cnT :: cnT :: cnT :: cnT :: cnT :: cnT :: cnT :: cnT :: cnT :: cnT :: cnT :: cnT :: [])) (by kernel_rfl) ⟨rfl, h0, h1, h2, h1, h1, h2, h1, h3, h4, h5, h6, h0, h2, h1, h1, h2, h1, h7, h7, h7, h7, h7, h8, h9, h10, h2, h1, h11, h12, h13, h14, h15, h16, h17, h18, h19, h3, h4, h20, h21, h22, h2, h1, h16, h17, h18, h19, h23, h3, h4, h24, h25, h26, h27, h11, h12, h14, h16, h17, h28, h29, h30, h31, h32, h20, h33, h34, h35, h35, h35, h35, h35, h35, h36, h36, h36, h36, h36, h37, h38, h38, h39, h40, h41, h42, h43, h44, h45, h38, h44, h45, h46, h47, h48, h49, h50, h51, h52, h53, h54, h46, h55, h56, h57, h58, h59, h60, trivial⟩
set_option maxHeartbeats 8000000 in
theorem writes_run (op sub pl fi ct : Int) (la : Bool) (zs : List UInt32) (da : Bool) (ds : List (Bool × List UInt8)) (o0 : 0 ≤ op) (o1 : op < 256) (s0 : 0 ≤ sub) (s1 : sub < 256) (p0 : 0 ≤ pl) (p1 : pl < 256) (f0 : 0 ≤ fi) (f1 : fi < 4294967296) (t0 : 0 ≤ ct) (t1 : ct < 256) (lzs : zs.length ≤ 9223372036854775807) (lds : ds.length ≤ 9223372036854775807) :
 ∃ h', aCall C10s 60 (Tgt.fn 13) [.agg [.int .u8 op, .int .u8 sub, .int .u8 pl, .int .u32 fi, .int .u8 ct, .fsl la zs.length (encU .u32 zs), .fsl da ds.length (encD ds)]] H0 = some (AV.bool true, h') := by
 have ed : datB (encD ds) = ds.map Prod.snd := by unfold datB; rw [rowsD_encD]
 have pz : ∀ k, AV.plainL (encU k zs) = true := fun k => encU_plainL k zs
 have pd : AV.plainL (encD ds) = true := encD_plainL ds
 have pu : ∀ l, AV.plainL (enD l) = true := fun l => enD_plainL l
 have psl : ∀ l, AV.plainL (encS l) = true := fun l => encS_plainL l
 have pwl : ∀ l, AV.plainL (ofBytes l) = true := fun l => ofBytes_plainL l
 have pw : ∀ l, AV.plainL (ofBytes l) = true := fun l => ofBytes_plainL l
 have uw : ∀ l, u8L (ofBytes l) = true := fun l => u8L_ofBytes l
 have isDs : isD (encD ds) = true := isD_iff.2 ⟨_, rfl⟩
 have isUz : isU .u32 (encU .u32 zs) = true := isU_iff.2 ⟨_, rfl⟩
 have isUq : isU .u64 (encU .u64 zs) = true := isU_iff.2 ⟨_, rfl⟩
 have isSs : ∀ l, isS (encS l) = true := fun l => isS_iff.2 ⟨_, rfl⟩
 have lz : ∀ k, (encU k zs).length = zs.length := fun k => encU_length k zs
 have ld : (encD ds).length = ds.length := encD_length ds
 have lq : (encS (ds.map Prod.snd)).length = ds.length := by rw [encS_length, List.length_map]
 have ls : (ds.map Prod.snd).length = ds.length := List.length_map _
 by_cases hk : okD p450 (encD ds) = true
 case neg =>
  have hk : okD p450 (encD ds) = false := by simpa using hk
  have key := lw_f op sub pl fi ct la zs.length (encU .u32 zs) da ds.length (encD ds)
  iterate 8
   replace key := key (by
    (try simp only [zw, zo, zd, kept_eq, AV.intOf, numsU_encU, ed, strsS_encS, bytesL_ofBytes, Bool.not_true, Bool.not_false, Bool.true_beq, Bool.false_beq, pz, pd, pu, psl, pwl, isDs, isUz, isUq, isSs, lz, ld, lq, ls, hk])
    first
     | done
     | with_reducible rfl
     | with_reducible assumption
     | with_reducible exact encU_plainL _ _
     | with_reducible exact isU_encU _ _
     | exact pw _
     | exact uw _
     | (rw [nbeq]; exact decide_eq_true rfl)
     | (rw [nble]; exact decide_eq_true (by omega))
     | (rw [ileB_eq]; exact decide_eq_true (by simp only [Int.ofNat_eq_natCast]; omega))
     | (rw [iltB_eq]; exact decide_eq_true (by simp only [Int.ofNat_eq_natCast]; omega))
     | (simp [nbeq, nble]; done)
     | (simp [nbeq, nble]; omega))
  obtain ⟨h', h, _⟩ := key
  exact ⟨h', h⟩
 by_cases h20 : zs.length ≤ 20
 case neg =>
  have k20 : ileB (Int.ofNat zs.length) (Int.ofNat 20) = false := by rw [ileB_eq]; exact decide_eq_false (by show ¬ (zs.length : Int) ≤ ((20 : Nat) : Int); omega)
  have key := lw_tf op sub pl fi ct la zs.length (encU .u32 zs) da ds.length (encD ds)
  iterate 8
   replace key := key (by
    (try simp only [zw, zo, zd, kept_eq, AV.intOf, numsU_encU, ed, strsS_encS, bytesL_ofBytes, Bool.not_true, Bool.not_false, Bool.true_beq, Bool.false_beq, pz, pd, pu, psl, pwl, isDs, isUz, isUq, isSs, lz, ld, lq, ls, hk, k20])
    first
     | done
     | with_reducible rfl
     | with_reducible assumption
     | with_reducible exact encU_plainL _ _
     | with_reducible exact isU_encU _ _
     | exact pw _
     | exact uw _
     | (rw [nbeq]; exact decide_eq_true rfl)
     | (rw [nble]; exact decide_eq_true (by omega))
     | (rw [ileB_eq]; exact decide_eq_true (by simp only [Int.ofNat_eq_natCast]; omega))
     | (rw [iltB_eq]; exact decide_eq_true (by simp only [Int.ofNat_eq_natCast]; omega))
     | (simp [nbeq, nble]; done)
     | (simp [nbeq, nble]; omega))
  obtain ⟨h', h, _⟩ := key
  exact ⟨h', h⟩
 have k20 : ileB (Int.ofNat zs.length) (Int.ofNat 20) = true := by rw [ileB_eq]; exact decide_eq_true (by show (zs.length : Int) ≤ ((20 : Nat) : Int); omega)
 by_cases d20 : ds.length ≤ 20
 case neg =>
  have kd : ileB (Int.ofNat ds.length) (Int.ofNat 20) = false := by rw [ileB_eq]; exact decide_eq_false (by show ¬ (ds.length : Int) ≤ ((20 : Nat) : Int); omega)
  have key := lw_ttt op sub pl fi ct la zs.length (encU .u32 zs) da ds.length (encD ds)
  iterate 9
   replace key := key (by
    (try simp only [zw, zo, zd, kept_eq, AV.intOf, numsU_encU, ed, strsS_encS, bytesL_ofBytes, Bool.not_true, Bool.not_false, Bool.true_beq, Bool.false_beq, pz, pd, pu, psl, pwl, isDs, isUz, isUq, isSs, lz, ld, lq, ls, hk, k20, kd])
    first
     | done
     | with_reducible rfl
     | with_reducible assumption
     | with_reducible exact encU_plainL _ _
     | with_reducible exact isU_encU _ _
     | exact pw _
     | exact uw _
     | (rw [nbeq]; exact decide_eq_true rfl)
     | (rw [nble]; exact decide_eq_true (by omega))
     | (rw [ileB_eq]; exact decide_eq_true (by simp only [Int.ofNat_eq_natCast]; omega))
     | (rw [iltB_eq]; exact decide_eq_true (by simp only [Int.ofNat_eq_natCast]; omega))
     | (simp [nbeq, nble]; done)
     | (simp [nbeq, nble]; omega))
  obtain ⟨h', h, _⟩ := key
  exact ⟨h', h⟩
 have kd : ileB (Int.ofNat ds.length) (Int.ofNat 20) = true := by rw [ileB_eq]; exact decide_eq_true (by show (ds.length : Int) ≤ ((20 : Nat) : Int); omega)
 cases hr : rightB op sub pl fi ct zs.length ds.length (encD ds) with
 | false =>
  have dn := docB_none hr
  have be : bytesEq [] [] = true := rfl
  have key := lw_ttffff op sub pl fi ct la zs.length (encU .u32 zs) da ds.length (encD ds)
  iterate 33
   replace key := key (by
    (try simp only [zw, zo, zd, kept_eq, AV.intOf, numsU_encU, ed, strsS_encS, bytesL_ofBytes, Bool.not_true, Bool.not_false, Bool.true_beq, Bool.false_beq, pz, pd, pu, psl, pwl, isDs, isUz, isUq, isSs, lz, ld, lq, ls, hk, k20, kd, hr, dn, be])
    first
     | done
     | with_reducible rfl
     | with_reducible assumption
     | with_reducible exact encU_plainL _ _
     | with_reducible exact isU_encU _ _
     | exact pw _
     | exact uw _
     | (rw [nbeq]; exact decide_eq_true rfl)
     | (rw [nble]; exact decide_eq_true (by omega))
     | (rw [ileB_eq]; exact decide_eq_true (by simp only [Int.ofNat_eq_natCast]; omega))
     | (rw [iltB_eq]; exact decide_eq_true (by simp only [Int.ofNat_eq_natCast]; omega))
     | (simp [nbeq, nble]; done)
     | (simp [nbeq, nble]; omega))
  obtain ⟨h', h, _⟩ := key
  exact ⟨h', h⟩
 | true =>
  have dy := docB_yes hr
  have ne := reqB_ne op sub pl fi ct zs (ds.map Prod.snd)
  have be : ∀ l, bytesEq l l = true := bytesEq_refl
  have hP := right_P hr
  unfold RightP at hP
  by_cases h4 : op = 4
  · have t4 : ieqB op (Int.ofNat 4) = true := by rw [h4]; rfl
    have z0 : zs = [] := List.eq_nil_of_length_eq_zero (by omega)
    have d0 : ds = [] := List.eq_nil_of_length_eq_zero (by omega)
    have q4 : reqB op sub pl fi ct zs (ds.map Prod.snd) = [UInt8.ofNat 4] := by unfold reqB; rw [if_neg (by omega), if_neg (by omega), if_pos h4, h4]; rfl
    have d4 : docB (Int.ofNat 4) (Int.ofNat 0) (Int.ofNat 0) (Int.ofNat 0) (Int.ofNat 0) 0 0 (numsU (encU IntKind.u64 (numsU []))) (strsS (encS (datB []))) = [UInt8.ofNat 4] := by
     unfold docB; rw [if_pos ⟨by decide, rfl⟩]; rfl
    rw [q4] at dy ne
    have key := lw_ttfttff op sub pl fi ct la zs.length (encU .u32 zs) da ds.length (encD ds)
    iterate 40
     replace key := key (by
      (try simp only [zw, zo, zd, kept_eq, AV.intOf, numsU_encU, ed, strsS_encS, bytesL_ofBytes, Bool.not_true, Bool.not_false, Bool.true_beq, Bool.false_beq, pz, pd, pu, psl, pwl, isDs, isUz, isUq, isSs, lz, ld, lq, ls, hk, k20, kd, hr, t4, dy, ne, be])
      first
       | done
       | with_reducible rfl
       | with_reducible assumption
       | with_reducible exact encU_plainL _ _
       | with_reducible exact isU_encU _ _
       | exact pw _
       | exact uw _
       | (rw [nbeq]; exact decide_eq_true rfl)
       | (rw [nble]; exact decide_eq_true (by omega))
       | (rw [ileB_eq]; exact decide_eq_true (by simp only [Int.ofNat_eq_natCast]; omega))
       | (rw [iltB_eq]; exact decide_eq_true (by simp only [Int.ofNat_eq_natCast]; omega))
       | (simp [nbeq, nble]; done)
       | (simp [nbeq, nble]; omega))
    obtain ⟨h', h, _⟩ := key
    simp only [zw, zo, zd, kept_eq, AV.intOf, numsU_encU, ed, strsS_encS, bytesL_ofBytes, Bool.not_true, Bool.not_false, Bool.true_beq, Bool.false_beq, pz, pd, pu, psl, pwl, isDs, isUz, isUq, isSs, lz, ld, lq, ls, dy, d4, be] at h
    exact ⟨h', h⟩
  · have t4 : ieqB op (Int.ofNat 4) = false := by rw [ieqB_eq]; exact beq_eq_false_iff_ne.2 h4
    have len := reqB_len hr
    rw [ed] at len
    have ll : reqL op zs.length ≤ 10000 := by
     have : sizeB op zs.length ≤ 444 * zs.length := by unfold sizeB; split <;> omega
     unfold reqL; split
     · omega
     · split
       · omega
       · first
         | omega
         | (split <;> omega)
    obtain ⟨w1, w2⟩ := parS_req hr s0 p0 (by omega) f0 f1
    have x1 : qSub (reqB op sub pl fi ct zs (ds.map Prod.snd)) = sub.toNat := by unfold qSub; rw [w2]
    have x2 : qPl (reqB op sub pl fi ct zs (ds.map Prod.snd)) = pl.toNat := by unfold qPl; rw [w2]
    have x3 : qFi (reqB op sub pl fi ct zs (ds.map Prod.snd)) = fi.toNat := by unfold qFi; rw [w2]
    have x4 : qCt (reqB op sub pl fi ct zs (ds.map Prod.snd)) = ct.toNat := by unfold qCt; rw [w2]
    have x5 : qA (reqB op sub pl fi ct zs (ds.map Prod.snd)) = zs := by unfold qA; rw [w2]
    have x6 : qD (reqB op sub pl fi ct zs (ds.map Prod.snd)) = ds.map Prod.snd := by unfold qD; rw [w2]
    have i0 := intN op o0
    have i1 := intN sub s0
    have i2 := intN pl p0
    have i3 := intN fi f0
    have i4 := intN ct t0
    have pk : parOK (reqB op sub pl fi ct zs (ds.map Prod.snd)) = true := by
     unfold parOK parR
     rw [w2, w1]
     simp only [i0, i1, i2, i3, i4, ls]
     rw [right_enD, hr]; rfl
    have rc : rowCut (ofBytes (reqB op sub pl fi ct zs (ds.map Prod.snd))) 0 (reqL op zs.length) = ofBytes (reqB op sub pl fi ct zs (ds.map Prod.snd)) := rowCut_all _ _ len
    have de := datB_enD (ds.map Prod.snd)
    have isE : ∀ l, isD (enD l) = true := fun l => isD_iff.2 ⟨_, rfl⟩
    have le : (enD (ds.map Prod.snd)).length = ds.length := by rw [enD_length, ls]
    have lw : (ofBytes (reqB op sub pl fi ct zs (ds.map Prod.snd))).length = reqL op zs.length := by rw [ofBytes_length, len]
    have key := lw_ttftffft op sub pl fi ct la zs.length (encU .u32 zs) da ds.length (encD ds)
    iterate 61
     replace key := key (by
      (try simp only [zw, zo, zd, kept_eq, AV.intOf, numsU_encU, ed, strsS_encS, bytesL_ofBytes, Bool.not_true, Bool.not_false, Bool.true_beq, Bool.false_beq, pz, pd, pu, psl, pwl, isDs, isUz, isUq, isSs, lz, ld, lq, ls, hk, k20, kd, hr, t4, dy, ne, be, w1, x1, x2, x3, x4, x5, x6, i0, i1, i2, i3, i4, pk, rc, de, isE, le, lw, bytesOf_ofBytes, Option.getD_some, Option.isSome_some, Nat.zero_add, Nat.mul_one])
      first
       | done
       | with_reducible rfl
       | with_reducible assumption
       | with_reducible exact encU_plainL _ _
       | with_reducible exact isU_encU _ _
       | exact pw _
       | exact uw _
       | (rw [nbeq]; exact decide_eq_true rfl)
       | (rw [nble]; exact decide_eq_true (by omega))
       | (rw [ileB_eq]; exact decide_eq_true (by simp only [Int.ofNat_eq_natCast]; omega))
       | (rw [iltB_eq]; exact decide_eq_true (by simp only [Int.ofNat_eq_natCast]; omega))
       | (simp [nbeq, nble]; done)
       | (simp [nbeq, nble]; omega))
    obtain ⟨h', h, _⟩ := key
    simp only [zw, zo, zd, kept_eq, AV.intOf, numsU_encU, ed, strsS_encS, bytesL_ofBytes, Bool.not_true, Bool.not_false, Bool.true_beq, Bool.false_beq, pz, pd, pu, psl, pwl, isDs, isUz, isUq, isSs, lz, ld, lq, ls, w1, x1, x2, x3, x4, x5, x6, i0, i1, i2, i3, i4, de, dy, be] at h
    exact ⟨h', h⟩
end Go.Proofs.Ytecncappdnhbaaa
end
end

section
noncomputable section
namespace Go.Ab
namespace M
end M
open M
end Go.Ab
namespace Go.Proofs.Ytecncappdnhbaaa
open Go.Ab.M Go.Ab Go
end Go.Proofs.Ytecncappdnhbaaa
end
end

section
noncomputable section
namespace Go.Proofs.Ytecncappdnhbaaa
open Go.Ab.M Go.Ab Go
end Go.Proofs.Ytecncappdnhbaaa
end
end

section
noncomputable section
namespace Go.Ab
namespace M
def q4 (x : Nat) : List UInt8 := [UInt8.ofNat (x / 16777216), UInt8.ofNat (x / 65536), UInt8.ofNat (x / 256), UInt8.ofNat (x / 1)]
def b1 (x : Int) : UInt8 := UInt8.ofNat (wrapA IntKind.u8 x).toNat
end M
open M
end Go.Ab
namespace Go.Proofs.Ytecncappdnhbaaa
open Go.Ab.M Go.Ab Go
end Go.Proofs.Ytecncappdnhbaaa
end
end

section
noncomputable section
namespace Go.Ab
open M
end Go.Ab
namespace Go.Proofs.Ytecncappdnhbaaa
open Go.Ab.M Go.Ab Go
end Go.Proofs.Ytecncappdnhbaaa
end
end

section
noncomputable section
namespace Go.Proofs.Ytecncappdnhbaaa
open Go.Ab.M Go.Ab Go
end Go.Proofs.Ytecncappdnhbaaa
end
end

section
noncomputable section
namespace Go.Proofs.Ytecncappdnhbaaa
open Go.Ab.M Go.Ab Go
theorem int_is {k : IntKind} {us : List AV} (h : (IT.int k).is us) : ∃ n, us = [.int k n] ∧ k.min ≤ n ∧ n ≤ k.max := by simpa only [IT.is] using h
theorem bytes_flat : ∀ {ls : List (List AV)}, (∀ l ∈ ls, (IT.int .u8).is l ∧ l.length = 1) → ∃ b : List UInt8, ls.flatten = ofBytes b ∧ b.length = ls.length
 | [], _ => ⟨[], rfl, rfl⟩
 | l :: ls, h => by
  obtain ⟨b, hb, hl⟩ := bytes_flat (fun x hx => h x (List.mem_cons_of_mem _ hx))
  obtain ⟨n, rfl, h0, h1⟩ := int_is (h l (List.mem_cons_self ..)).1
  have h0' : 0 ≤ n := h0
  have h1' : n ≤ 255 := h1
  obtain ⟨m, rfl⟩ : ∃ m : Nat, n = (m : Int) := ⟨n.toNat, by omega⟩
  refine ⟨UInt8.ofNat m :: b, ?_, by simp [hl]⟩
  show AV.int .u8 (m : Int) :: ls.flatten = AV.int .u8 (((UInt8.ofNat m).toNat : Nat) : Int) :: ofBytes b
  rw [hb, UInt8.toNat_ofNat', Nat.mod_eq_of_lt (by omega)]
theorem bytes_is {us : List AV} (h : (IT.slice (.int .u8) 1).is us) : ∃ nl b, us = [.fsl nl b.length (ofBytes b)] := by
 rw [IT.is] at h
 obtain ⟨nl, ls, rfl, _, _, h⟩ := h
 obtain ⟨b, hb, hl⟩ := bytes_flat h
 exact ⟨nl, b, by rw [hb, hl]⟩
theorem cons_is {h t : IT} {us : List AV} (x : (IT.cons h t).is us) : ∃ a b, us = a ++ b ∧ h.is a ∧ t.is b := by rw [IT.is] at x; exact x
theorem struct_is {h : IT} {us : List AV} (x : (IT.struct h).is us) : h.is us := by rw [IT.is] at x; exact x
theorem nil_is {us : List AV} (x : IT.nil.is us) : us = [] := by rw [IT.is] at x; exact x
end Go.Proofs.Ytecncappdnhbaaa
end
end

section
noncomputable section
namespace Go.Proofs.Ytecncappdnhbaaa
open Go.Ab.M Go.Ab Go
theorem u32s_flat : ∀ {ls : List (List AV)}, (∀ l ∈ ls, (IT.int .u32).is l ∧ l.length = 1) → ∃ zs : List UInt32, ls.flatten = encU .u32 zs ∧ zs.length = ls.length
 | [], _ => ⟨[], rfl, rfl⟩
 | l :: ls, h => by
  obtain ⟨b, hb, hl⟩ := u32s_flat (fun x hx => h x (List.mem_cons_of_mem _ hx))
  obtain ⟨n, rfl, h0, h1⟩ := int_is (h l (List.mem_cons_self ..)).1
  have h0' : 0 ≤ n := h0
  have h1' : n ≤ 4294967295 := h1
  obtain ⟨m, rfl⟩ : ∃ m : Nat, n = (m : Int) := ⟨n.toNat, by omega⟩
  refine ⟨UInt32.ofNat m :: b, ?_, by simp [hl]⟩
  show AV.int .u32 (m : Int) :: ls.flatten = AV.int .u32 (((UInt32.ofNat m).toNat : Nat) : Int) :: encU .u32 b
  rw [hb, UInt32.toNat_ofNat', Nat.mod_eq_of_lt (by omega)]
theorem u32s_is {us : List AV} (h : (IT.slice (.int .u32) 1).is us) : ∃ nl zs, us = [.fsl nl (List.length zs) (encU .u32 zs)] ∧ zs.length ≤ 9223372036854775807 := by
 rw [IT.is] at h
 obtain ⟨nl, ls, rfl, _, hle, h⟩ := h
 obtain ⟨b, hb, hl⟩ := u32s_flat h
 exact ⟨nl, b, by rw [hb, hl], by rw [hl]; exact Nat.le_trans hle (by decide)⟩
theorem rows_flat : ∀ {ls : List (List AV)}, (∀ l ∈ ls, (IT.slice (.int .u8) 1).is l ∧ l.length = 1) → ∃ ds : List (Bool × List UInt8), ls.flatten = encD ds ∧ ds.length = ls.length
 | [], _ => ⟨[], rfl, rfl⟩
 | l :: ls, h => by
  obtain ⟨b, hb, hl⟩ := rows_flat (fun x hx => h x (List.mem_cons_of_mem _ hx))
  obtain ⟨nl, d, rfl⟩ := bytes_is (h l (List.mem_cons_self ..)).1
  refine ⟨(nl, d) :: b, ?_, by simp [hl]⟩
  show AV.fsl nl d.length (ofBytes d) :: ls.flatten = rowD (nl, d) :: encD b
  rw [hb]; rfl
theorem rows_is {us : List AV} (h : (IT.slice (.slice (.int .u8) 1) 1).is us) : ∃ nl ds, us = [.fsl nl (List.length ds) (encD ds)] ∧ ds.length ≤ 9223372036854775807 := by
 rw [IT.is] at h
 obtain ⟨nl, ls, rfl, _, hle, h⟩ := h
 obtain ⟨b, hb, hl⟩ := rows_flat h
 exact ⟨nl, b, by rw [hb, hl], by rw [hl]; exact Nat.le_trans hle (by decide)⟩
def itReq : IT := .struct (.cons (.int .u8) (.cons (.int .u8) (.cons (.int .u8) (.cons (.int .u32) (.cons (.int .u8) (.cons (.slice (.int .u32) 1) (.cons (.slice (.slice (.int .u8) 1) 1) .nil)))))))
theorem req_is {us : List AV} (h : itReq.is us) : ∃ op sub pl fi ct la zs da ds, us = [.int .u8 op, .int .u8 sub, .int .u8 pl, .int .u32 fi, .int .u8 ct, .fsl la (List.length zs) (encU .u32 zs), .fsl da (List.length ds) (encD ds)] ∧ (0 ≤ op ∧ op < 256) ∧ (0 ≤ sub ∧ sub < 256) ∧ (0 ≤ pl ∧ pl < 256) ∧ (0 ≤ fi ∧ fi < 4294967296) ∧ (0 ≤ ct ∧ ct < 256) ∧ zs.length ≤ 9223372036854775807 ∧ ds.length ≤ 9223372036854775807 := by
 obtain ⟨_, _, rfl, g0, e0⟩ := cons_is (struct_is h)
 obtain ⟨_, _, rfl, g1, e1⟩ := cons_is e0
 obtain ⟨_, _, rfl, g2, e2⟩ := cons_is e1
 obtain ⟨_, _, rfl, g3, e3⟩ := cons_is e2
 obtain ⟨_, _, rfl, g4, e4⟩ := cons_is e3
 obtain ⟨_, _, rfl, g5, e5⟩ := cons_is e4
 obtain ⟨_, _, rfl, g6, e6⟩ := cons_is e5
 obtain rfl := nil_is e6
 obtain ⟨op, rfl, q0⟩ := int_is g0
 obtain ⟨sub, rfl, q1⟩ := int_is g1
 obtain ⟨pl, rfl, q2⟩ := int_is g2
 obtain ⟨fi, rfl, q3⟩ := int_is g3
 obtain ⟨ct, rfl, q4⟩ := int_is g4
 obtain ⟨la, zs, rfl, l1⟩ := u32s_is g5
 obtain ⟨da, ds, rfl, l2⟩ := rows_is g6
 have r : ∀ {n : Int}, IntKind.min .u32 ≤ n ∧ n ≤ IntKind.max .u32 → 0 ≤ n ∧ n < 4294967296 := fun {n} h => by
  have a : 0 ≤ n := h.1
  have b : n ≤ 4294967295 := h.2
  omega
 have r8 : ∀ {n : Int}, IntKind.min .u8 ≤ n ∧ n ≤ IntKind.max .u8 → 0 ≤ n ∧ n < 256 := fun {n} h => by
  have a : 0 ≤ n := h.1
  have b : n ≤ 255 := h.2
  omega
 exact ⟨op, sub, pl, fi, ct, la, zs, da, ds, rfl, r8 q0, r8 q1, r8 q2, r q3, r8 q4, l1, l2⟩
end Go.Proofs.Ytecncappdnhbaaa
end
end
