/- Texts of the abstract machine and of the laws, merged. -/
import Derived.Test.YtecncappdnhbaaaG5
import Derived.Test.YtecncappdnhbaaaG3
set_option autoImplicit false
set_option linter.unusedVariables false
set_option linter.unusedSimpArgs false
set_option linter.unusedSectionVars false
set_option maxRecDepth 100000
section
noncomputable section
namespace Go.Ab.M
def pst (op:Int) (r0:List UInt8) (k0:Bool):Nat → List UInt8 × Bool × List UInt32 × List (List UInt8)
 | 0=>(r0,k0,[],[])
 | i+1=>let s:=pst op r0 k0 i
  if op=2 then (rsB 440 (rsB 4 s.1),(s.2.1 && Nat.ble 4 s.1.length) && Nat.ble 440 (rsB 4 s.1).length,s.2.2.1++[nuB s.1],s.2.2.2++[tkB 440 (rsB 4 s.1)])
  else (rsB 4 s.1,s.2.1 && Nat.ble 4 s.1.length,s.2.2.1++[nuB s.1],s.2.2.2)
def pR (op:Int) (r0:List UInt8) (k0:Bool) (m:Nat):List UInt8:=(pst op r0 k0 m).1
def pK (op:Int) (r0:List UInt8) (k0:Bool) (m:Nat):Bool:=(pst op r0 k0 m).2.1
def pA (op:Int) (r0:List UInt8) (k0:Bool) (m:Nat):List UInt32:=(pst op r0 k0 m).2.2.1
def pD (op:Int) (r0:List UInt8) (k0:Bool) (m:Nat):List (List UInt8):=(pst op r0 k0 m).2.2.2
def enD (l:List (List UInt8)):List AV:=xcu (l.map fun b=>(false,b))
end Go.Ab.M
namespace Go.Ab
open M
theorem xdg (n:Nat) (r:List UInt8):rsB n r <:+ r:=by
 unfold rsB;split
 · exact List.drop_suffix _ _
 · exact List.suffix_refl _
theorem xdk {w r:List UInt8} (h:r <:+ w):seg w (w.length - r.length) r.length=r:=by
 obtain ⟨t,rfl⟩:=h
 unfold seg
 rw [List.length_append,Nat.add_sub_cancel,List.drop_left,List.take_of_length_le (Nat.le_refl _)]
theorem xdy (n:Nat) {w r:List UInt8} (h:r <:+ w) {off len:Nat} (hl:len=r.length) (ho:off+len=w.length):tkO n off len=w.length - (rsB n r).length∧tkL n len=(rsB n r).length:=by
 subst hl
 unfold tkO tkL rsB
 split
 · rw [List.length_drop];exact ⟨by omega,rfl⟩
 · exact ⟨by omega,rfl⟩
theorem pst_suf (op:Int) (r0:List UInt8) (k0:Bool) (i:Nat):pR op r0 k0 i <:+ r0:=by
 induction i with
 | zero=>exact List.suffix_refl _
 | succ i ih =>
  unfold pR at ih ⊢
  simp only [pst]
  split
  · exact ((xdg 440 _).trans (xdg 4 _)).trans ih
  · exact (xdg 4 _).trans ih
theorem xgv (op:Int) (r0:List UInt8) (k0:Bool) (i:Nat):(pA op r0 k0 i).length=i:=by
 induction i with
 | zero=>rfl
 | succ i ih =>
  unfold pA at ih ⊢
  simp only [pst]
  split <;> simp only [List.length_append,ih,List.length_cons,List.length_nil]
theorem xro (r0:List UInt8) (k0:Bool) (i:Nat):(pD 2 r0 k0 i).length=i:=by
 induction i with
 | zero=>rfl
 | succ i ih =>
  unfold pD at ih ⊢
  simp only [pst,if_true]
  simp only [List.length_append,ih,List.length_cons,List.length_nil]
theorem pD_nil {op:Int} (h:op ≠ 2) (r0:List UInt8) (k0:Bool) (i:Nat):pD op r0 k0 i=[]:=by
 induction i with
 | zero=>rfl
 | succ i ih =>
  unfold pD at ih ⊢
  simp only [pst,if_neg h]
  exact ih
theorem enD_snoc (l:List (List UInt8)) (x:List UInt8) (h:x.length=440):enD l++[AV.fsl false 440 (ofBytes x)]=enD (l++[x]):=by
 have e:AV.fsl false 440 (ofBytes x)=rowD (false,x):=by unfold rowD;rw [h]
 unfold enD
 rw [e,encD_snoc,List.map_append];rfl
theorem xhl (l:List (List UInt8)):(enD l).length=l.length:=by unfold enD;rw [xay,List.length_map]
theorem xfh (l:List (List UInt8)):AV.plainL (enD l)=true:=xbv _
theorem isU_encU (k:IntKind) (l:List UInt32):isU k (xbs k l)=true:=xcj.2 ⟨_,rfl⟩
theorem room4 {n:Nat} (h:n ≤ 1000):xch 4 n 1=true:=by unfold xch;exact decide_eq_true (by omega)
theorem room24 {n:Nat} (h:n ≤ 1000):xch 24 n 1=true:=by unfold xch;exact decide_eq_true (by omega)
end Go.Ab
namespace Go.Proofs.Ytecncappdnhbaaa
open Go.Ab.M Go.Ab Go
theorem pA_e (o off len N:Nat) (cs:List AV) (ok:Bool) (m i:Nat) (h0:(xak (Int.ofNat i) (Int.ofNat m))=false) (h1:(AV.plainL cs)=true) :
 xbb Try.prog (xdi tys) 77 4 (xbj (xbg Try.f60 1)) { fr:=xar 77 ([2,4,5,26,27].zip [.ptr (some (0,0)), .ptr (some (1,0)), .ptr (some (2,0)), .int .u8 (Int.ofNat m), .int .u8 (Int.ofNat i)]),ds:=xdp 0,H:=mkL [.cells true 103 7 [.int .u8 (Int.ofNat 0), .int .u8 (Int.ofNat 0), .int .u8 (Int.ofNat 0), .int .u32 (Int.ofNat 0), .int .u8 (Int.ofNat 0), .slice none 0 (some 0), .slice none 0 (some 0)], .cells true 150 2 [.slice (some (3,off)) len none, .bool ok], .cells true 103 7 [.int .u8 (Int.ofNat o), .int .u8 (Int.ofNat 0), .int .u8 (Int.ofNat 0), .int .u32 (Int.ofNat 0), .int .u8 (Int.ofNat 0), .slice none 0 (some 0), .slice none 0 (some 0)], .cells true 5 N cs] } (AX.exit 1) ⟨xar 77 ([2,4,5,26,27].zip [.ptr (some (0,0)), .ptr (some (1,0)), .ptr (some (2,0)), .int .u8 (Int.ofNat m), .int .u8 (Int.ofNat i)]),xdp 0,mkL [.cells true 103 7 [.int .u8 (Int.ofNat 0), .int .u8 (Int.ofNat 0), .int .u8 (Int.ofNat 0), .int .u32 (Int.ofNat 0), .int .u8 (Int.ofNat 0), .slice none 0 (some 0), .slice none 0 (some 0)], .cells true 150 2 [.slice (some (3,off)) len none, .bool ok], .cells true 103 7 [.int .u8 (Int.ofNat o), .int .u8 (Int.ofNat 0), .int .u8 (Int.ofNat 0), .int .u32 (Int.ofNat 0), .int .u8 (Int.ofNat 0), .slice none 0 (some 0), .slice none 0 (some 0)], .cells true 5 N cs]⟩ :=
 xbh (g:=30) (k:=60) (f:=30) (sl:=[2,4,5,26,27]) (ks:=[0,1,2,3]) (rs:=[]) (ds:=[]) (cxZ xbd) xpc (q:=qNs [1]) (c:=(cnF::[])) (cq:=[true,true,true,true,true,true,true,true,AV.plainL cs]) (by kernel_rfl) ⟨h0,trivial⟩ (xci ⟨rfl,rfl,rfl,rfl,rfl,rfl,rfl,rfl,h1,trivial⟩) (by kernel_rfl) (by kernel_rfl) (by kernel_rfl) (by kernel_rfl) (by kernel_rfl)
theorem pA_2 (o off len N:Nat) (cs:List AV) (ok:Bool) (m i:Nat) (h0:(xak (Int.ofNat i) (Int.ofNat m))=true) (h1:(AV.plainL cs)=true) (h2:(u8L cs)=true) (h3:(cs.length.beq N)=true) (h4:((off+len).ble N)=true) (h5:(xae (AV.int IntKind.u8 (Int.ofNat o)).intOf (Int.ofNat 2))=true) (h6:((kept (tkO 4 off len)+kept (tkL 4 len)).ble N)=true) (h7:(AV.plainL (kept (ofBytes (tkB 440 (seg (xap cs) (kept (tkO 4 off len)) (kept (tkL 4 len)))))))=true) (h8:(AV.plainL [AV.fsl false 440 (kept (ofBytes (tkB 440 (seg (xap cs) (kept (tkO 4 off len)) (kept (tkL 4 len))))))])=true) :
 xbb Try.prog (xdi tys) 77 4 (xbj (xbg Try.f60 1)) { fr:=xar 77 ([2,4,5,26,27].zip [.ptr (some (0,0)), .ptr (some (1,0)), .ptr (some (2,0)), .int .u8 (Int.ofNat m), .int .u8 (Int.ofNat i)]),ds:=xdp 0,H:=mkL [.cells true 103 7 [.int .u8 (Int.ofNat 0), .int .u8 (Int.ofNat 0), .int .u8 (Int.ofNat 0), .int .u32 (Int.ofNat 0), .int .u8 (Int.ofNat 0), .slice none 0 (some 0), .slice none 0 (some 0)], .cells true 150 2 [.slice (some (3,off)) len none, .bool ok], .cells true 103 7 [.int .u8 (Int.ofNat o), .int .u8 (Int.ofNat 0), .int .u8 (Int.ofNat 0), .int .u32 (Int.ofNat 0), .int .u8 (Int.ofNat 0), .slice none 0 (some 0), .slice none 0 (some 0)], .cells true 5 N cs] } (AX.normal) ⟨xar 77 ([2,4,5,26,27].zip [.ptr (some (0,0)), .ptr (some (1,0)), .ptr (some (2,0)), .int .u8 (Int.ofNat m), .int .u8 (xaf IntKind.u8 ((Int.ofNat i).add (Int.ofNat 1)))]),xdp 0,mkL [.cells true 103 7 [.int .u8 (Int.ofNat 0), .int .u8 (Int.ofNat 0), .int .u8 (Int.ofNat 0), .int .u32 (Int.ofNat 0), .int .u8 (Int.ofNat 0), .slice none 0 (some 0), .slice none 0 (some 0)], .cells true 150 2 [.slice (some (3,kept (tkO 440 (kept (tkO 4 off len)) (kept (tkL 4 len))))) (kept (tkL 440 (kept (tkL 4 len)))) none, .bool (kept (kept (ok && Nat.ble 4 len) && Nat.ble 440 (kept (tkL 4 len))))], .cells true 103 7 [.int .u8 (Int.ofNat o), .int .u8 (Int.ofNat 0), .int .u8 (Int.ofNat 0), .int .u32 (Int.ofNat 0), .int .u8 (Int.ofNat 0), .slice (some (4,0)) 1 none, .slice (some (5,0)) 1 none], .cells true 5 N cs, .cells true 27 1 [.int .u32 (Int.ofNat (kept (xdb (seg (xap cs) off len))))], .cells true 36 1 [.fsl false 440 (kept (ofBytes (tkB 440 (seg (xap cs) (kept (tkO 4 off len)) (kept (tkL 4 len))))))]]⟩ :=
 xbh (g:=30) (k:=60) (f:=30) (sl:=[2,4,5,26,27]) (ks:=[0,1,2,3,5,7]) (rs:=[]) (ds:=[]) (cxZ xbd) xpc (q:=qNs [0,14,0,6,0,0,0,0,6,0,26,0,6,0,14,0,6,0,0,0,0,5,0,5,0,26,0,3]) (c:=(cnT::cnT::cnT::cnT::cnT::cnT::cnT::Cnd.same (AV.agg [AV.int IntKind.u32 (Int.ofNat (kept (xdb (seg (xap cs) off len))))]) (AV.agg [AV.int IntKind.u32 (Int.ofNat (kept (xdb (seg (xap cs) off len))))])::cnT::cnT::cnT::cnT::cnT::cnT::cnT::cnT::Cnd.same (AV.agg [AV.fsl false 440 (kept (ofBytes (tkB 440 (seg (xap cs) (kept (tkO 4 off len)) (kept (tkL 4 len))))))]) (AV.agg [AV.fsl false 440 (kept (ofBytes (tkB 440 (seg (xap cs) (kept (tkO 4 off len)) (kept (tkL 4 len))))))])::[])) (cq:=[true,true,true,true,true,true,true,true,true,true,AV.plainL cs,true,true,true,AV.plainL [AV.fsl false 440 (kept (ofBytes (tkB 440 (seg (xap cs) (kept (tkO 4 off len)) (kept (tkL 4 len))))))]]) (by kernel_rfl) ⟨h0,h1,h1,h2,h3,h4,h1,rfl,h5,h1,h1,h2,h3,h6,h7,h1,rfl,trivial⟩ (xci ⟨rfl,rfl,rfl,rfl,rfl,rfl,rfl,rfl,rfl,rfl,h1,rfl,rfl,rfl,h8,trivial⟩) (by kernel_rfl) (by kernel_rfl) (by kernel_rfl) (by kernel_rfl) (by kernel_rfl)
theorem pA_3 (o off len N:Nat) (cs:List AV) (ok:Bool) (m i:Nat) (h0:(xak (Int.ofNat i) (Int.ofNat m))=true) (h1:(AV.plainL cs)=true) (h2:(u8L cs)=true) (h3:(cs.length.beq N)=true) (h4:((off+len).ble N)=true) (h5:(xae (AV.int IntKind.u8 (Int.ofNat o)).intOf (Int.ofNat 2))=false) :
 xbb Try.prog (xdi tys) 77 4 (xbj (xbg Try.f60 1)) { fr:=xar 77 ([2,4,5,26,27].zip [.ptr (some (0,0)), .ptr (some (1,0)), .ptr (some (2,0)), .int .u8 (Int.ofNat m), .int .u8 (Int.ofNat i)]),ds:=xdp 0,H:=mkL [.cells true 103 7 [.int .u8 (Int.ofNat 0), .int .u8 (Int.ofNat 0), .int .u8 (Int.ofNat 0), .int .u32 (Int.ofNat 0), .int .u8 (Int.ofNat 0), .slice none 0 (some 0), .slice none 0 (some 0)], .cells true 150 2 [.slice (some (3,off)) len none, .bool ok], .cells true 103 7 [.int .u8 (Int.ofNat o), .int .u8 (Int.ofNat 0), .int .u8 (Int.ofNat 0), .int .u32 (Int.ofNat 0), .int .u8 (Int.ofNat 0), .slice none 0 (some 0), .slice none 0 (some 0)], .cells true 5 N cs] } (AX.normal) ⟨xar 77 ([2,4,5,26,27].zip [.ptr (some (0,0)), .ptr (some (1,0)), .ptr (some (2,0)), .int .u8 (Int.ofNat m), .int .u8 (xaf IntKind.u8 ((Int.ofNat i).add (Int.ofNat 1)))]),xdp 0,mkL [.cells true 103 7 [.int .u8 (Int.ofNat 0), .int .u8 (Int.ofNat 0), .int .u8 (Int.ofNat 0), .int .u32 (Int.ofNat 0), .int .u8 (Int.ofNat 0), .slice none 0 (some 0), .slice none 0 (some 0)], .cells true 150 2 [.slice (some (3,kept (tkO 4 off len))) (kept (tkL 4 len)) none, .bool (kept (ok && Nat.ble 4 len))], .cells true 103 7 [.int .u8 (Int.ofNat o), .int .u8 (Int.ofNat 0), .int .u8 (Int.ofNat 0), .int .u32 (Int.ofNat 0), .int .u8 (Int.ofNat 0), .slice (some (4,0)) 1 none, .slice none 0 (some 0)], .cells true 5 N cs, .cells true 27 1 [.int .u32 (Int.ofNat (kept (xdb (seg (xap cs) off len))))]]⟩ :=
 xbh (g:=30) (k:=60) (f:=30) (sl:=[2,4,5,26,27]) (ks:=[0,1,2,3,5]) (rs:=[]) (ds:=[]) (cxZ xbd) xpc (q:=qNs [0,14,0,6,0,0,0,0,6,0,26,0,6,1]) (c:=(cnT::cnT::cnT::cnT::cnT::cnT::cnT::Cnd.same (AV.agg [AV.int IntKind.u32 (Int.ofNat (kept (xdb (seg (xap cs) off len))))]) (AV.agg [AV.int IntKind.u32 (Int.ofNat (kept (xdb (seg (xap cs) off len))))])::cnF::[])) (cq:=[true,true,true,true,true,true,true,true,true,AV.plainL cs,true,true]) (by kernel_rfl) ⟨h0,h1,h1,h2,h3,h4,h1,rfl,h5,trivial⟩ (xci ⟨rfl,rfl,rfl,rfl,rfl,rfl,rfl,rfl,rfl,h1,rfl,rfl,trivial⟩) (by kernel_rfl) (by kernel_rfl) (by kernel_rfl) (by kernel_rfl) (by kernel_rfl)
theorem pB2_e (o off len N:Nat) (cs:List AV) (ok:Bool) (m i a:Nat) (a':Nat) (d:Nat) (d':Nat) (xs:List AV) (ds:List AV) (h0:(xak (Int.ofNat i) (Int.ofNat m))=false) (h1:(AV.plainL cs)=true) (h2:(AV.plainL xs)=true) (h3:(AV.plainL ds)=true) :
 xbb Try.prog (xdi tys) 77 4 (xbj (xbg Try.f60 1)) { fr:=xar 77 ([2,4,5,26,27].zip [.ptr (some (0,0)), .ptr (some (1,0)), .ptr (some (2,0)), .int .u8 (Int.ofNat m), .int .u8 (Int.ofNat i)]),ds:=xdp 0,H:=mkL [.cells true 103 7 [.int .u8 (Int.ofNat 0), .int .u8 (Int.ofNat 0), .int .u8 (Int.ofNat 0), .int .u32 (Int.ofNat 0), .int .u8 (Int.ofNat 0), .slice none 0 (some 0), .slice none 0 (some 0)], .cells true 150 2 [.slice (some (3,off)) len none, .bool ok], .cells true 103 7 [.int .u8 (Int.ofNat o), .int .u8 (Int.ofNat 0), .int .u8 (Int.ofNat 0), .int .u32 (Int.ofNat 0), .int .u8 (Int.ofNat 0), .slice (some (4,0)) a none, .slice (some (5,0)) d none], .cells true 5 N cs, .cells true 27 a' xs, .cells true 36 d' ds] } (AX.exit 1) ⟨xar 77 ([2,4,5,26,27].zip [.ptr (some (0,0)), .ptr (some (1,0)), .ptr (some (2,0)), .int .u8 (Int.ofNat m), .int .u8 (Int.ofNat i)]),xdp 0,mkL [.cells true 103 7 [.int .u8 (Int.ofNat 0), .int .u8 (Int.ofNat 0), .int .u8 (Int.ofNat 0), .int .u32 (Int.ofNat 0), .int .u8 (Int.ofNat 0), .slice none 0 (some 0), .slice none 0 (some 0)], .cells true 150 2 [.slice (some (3,off)) len none, .bool ok], .cells true 103 7 [.int .u8 (Int.ofNat o), .int .u8 (Int.ofNat 0), .int .u8 (Int.ofNat 0), .int .u32 (Int.ofNat 0), .int .u8 (Int.ofNat 0), .slice (some (4,0)) a none, .slice (some (5,0)) d none], .cells true 5 N cs, .cells true 27 a' xs, .cells true 36 d' ds]⟩ :=
 xbh (g:=30) (k:=60) (f:=30) (sl:=[2,4,5,26,27]) (ks:=[0,1,2,3,4,5]) (rs:=[]) (ds:=[]) (cxZ xbd) xpc (q:=qNs [1]) (c:=(cnF::[])) (cq:=[true,true,true,true,true,true,true,true,true,true,AV.plainL cs,true,AV.plainL xs,true,AV.plainL ds]) (by kernel_rfl) ⟨h0,trivial⟩ (xci ⟨rfl,rfl,rfl,rfl,rfl,rfl,rfl,rfl,rfl,rfl,h1,rfl,h2,rfl,h3,trivial⟩) (by kernel_rfl) (by kernel_rfl) (by kernel_rfl) (by kernel_rfl) (by kernel_rfl)
theorem pB2_2 (o off len N:Nat) (cs:List AV) (ok:Bool) (m i a:Nat) (a':Nat) (d:Nat) (d':Nat) (xs:List AV) (ds:List AV) (h0:(xak (Int.ofNat i) (Int.ofNat m))=true) (h1:(AV.plainL cs)=true) (h2:(u8L cs)=true) (h3:(cs.length.beq N)=true) (h4:((off+len).ble N)=true) (h5:(xch 4 a 1)=true) (h6:(a'.beq (a*1))=true) (h7:(xae (AV.int IntKind.u8 (Int.ofNat o)).intOf (Int.ofNat 2))=true) (h8:((kept (tkO 4 off len)+kept (tkL 4 len)).ble N)=true) (h9:(AV.plainL (kept (ofBytes (tkB 440 (seg (xap cs) (kept (tkO 4 off len)) (kept (tkL 4 len)))))))=true) (h10:(xch 24 d 1)=true) (h11:(d'.beq (d*1))=true) (h12:(AV.plainL (xs++[AV.int IntKind.u32 (Int.ofNat (kept (xdb (seg (xap cs) off len))))]))=true) (h13:(AV.plainL (ds++[AV.fsl false 440 (kept (ofBytes (tkB 440 (seg (xap cs) (kept (tkO 4 off len)) (kept (tkL 4 len))))))]))=true) :
 xbb Try.prog (xdi tys) 77 4 (xbj (xbg Try.f60 1)) { fr:=xar 77 ([2,4,5,26,27].zip [.ptr (some (0,0)), .ptr (some (1,0)), .ptr (some (2,0)), .int .u8 (Int.ofNat m), .int .u8 (Int.ofNat i)]),ds:=xdp 0,H:=mkL [.cells true 103 7 [.int .u8 (Int.ofNat 0), .int .u8 (Int.ofNat 0), .int .u8 (Int.ofNat 0), .int .u32 (Int.ofNat 0), .int .u8 (Int.ofNat 0), .slice none 0 (some 0), .slice none 0 (some 0)], .cells true 150 2 [.slice (some (3,off)) len none, .bool ok], .cells true 103 7 [.int .u8 (Int.ofNat o), .int .u8 (Int.ofNat 0), .int .u8 (Int.ofNat 0), .int .u32 (Int.ofNat 0), .int .u8 (Int.ofNat 0), .slice (some (4,0)) a none, .slice (some (5,0)) d none], .cells true 5 N cs, .cells true 27 a' xs, .cells true 36 d' ds] } (AX.normal) ⟨xar 77 ([2,4,5,26,27].zip [.ptr (some (0,0)), .ptr (some (1,0)), .ptr (some (2,0)), .int .u8 (Int.ofNat m), .int .u8 (xaf IntKind.u8 ((Int.ofNat i).add (Int.ofNat 1)))]),xdp 0,mkL [.cells true 103 7 [.int .u8 (Int.ofNat 0), .int .u8 (Int.ofNat 0), .int .u8 (Int.ofNat 0), .int .u32 (Int.ofNat 0), .int .u8 (Int.ofNat 0), .slice none 0 (some 0), .slice none 0 (some 0)], .cells true 150 2 [.slice (some (3,kept (tkO 440 (kept (tkO 4 off len)) (kept (tkL 4 len))))) (kept (tkL 440 (kept (tkL 4 len)))) none, .bool (kept (kept (ok && Nat.ble 4 len) && Nat.ble 440 (kept (tkL 4 len))))], .cells true 103 7 [.int .u8 (Int.ofNat o), .int .u8 (Int.ofNat 0), .int .u8 (Int.ofNat 0), .int .u32 (Int.ofNat 0), .int .u8 (Int.ofNat 0), .slice (some (4,0)) (a+1) none, .slice (some (5,0)) (d+1) none], .cells true 5 N cs, .cells true 27 (xs++[AV.int IntKind.u32 (Int.ofNat (kept (xdb (seg (xap cs) off len))))]).length (xs++[AV.int IntKind.u32 (Int.ofNat (kept (xdb (seg (xap cs) off len))))]), .cells true 36 (ds++[AV.fsl false 440 (kept (ofBytes (tkB 440 (seg (xap cs) (kept (tkO 4 off len)) (kept (tkL 4 len))))))]).length (ds++[AV.fsl false 440 (kept (ofBytes (tkB 440 (seg (xap cs) (kept (tkO 4 off len)) (kept (tkL 4 len))))))])]⟩ :=
 xbh (g:=30) (k:=60) (f:=30) (sl:=[2,4,5,26,27]) (ks:=[0,1,2,3,7,9]) (rs:=[]) (ds:=[]) (cxZ xbd) xpc (q:=qNs [0,14,0,6,0,0,0,0,6,0,7,0,0,11,0,5,0,7,0,6,0,14,0,6,0,0,0,0,5,0,5,0,7,0,0,11,0,5,0,7,0,3]) (c:=(cnT::cnT::cnT::cnT::cnT::cnT::cnT::cnT::cnT::Cnd.same (AV.slice (some (4,0)) a none) (AV.slice (some (4,0)) a none)::Cnd.same (AV.slice (some (4,0)) a none) (AV.slice (some (4,0)) a none)::Cnd.same (AV.agg [AV.int IntKind.u32 (Int.ofNat (kept (xdb (seg (xap cs) off len))))]) (AV.agg [AV.int IntKind.u32 (Int.ofNat (kept (xdb (seg (xap cs) off len))))])::cnT::cnT::cnT::cnT::cnT::cnT::cnT::cnT::cnT::cnT::Cnd.same (AV.slice (some (5,0)) d none) (AV.slice (some (5,0)) d none)::Cnd.same (AV.slice (some (5,0)) d none) (AV.slice (some (5,0)) d none)::Cnd.same (AV.agg [AV.fsl false 440 (kept (ofBytes (tkB 440 (seg (xap cs) (kept (tkO 4 off len)) (kept (tkL 4 len))))))]) (AV.agg [AV.fsl false 440 (kept (ofBytes (tkB 440 (seg (xap cs) (kept (tkO 4 off len)) (kept (tkL 4 len))))))])::[])) (cq:=[true,true,true,true,true,true,true,true,true,true,AV.plainL cs,true,AV.plainL (xs++[AV.int IntKind.u32 (Int.ofNat (kept (xdb (seg (xap cs) off len))))]),true,AV.plainL (ds++[AV.fsl false 440 (kept (ofBytes (tkB 440 (seg (xap cs) (kept (tkO 4 off len)) (kept (tkL 4 len))))))])]) (by kernel_rfl) ⟨h0,h1,h1,h2,h3,h4,h1,h5,h6,rfl,rfl,rfl,h7,h1,h1,h2,h3,h8,h9,h1,h10,h11,rfl,rfl,rfl,trivial⟩ (xci ⟨rfl,rfl,rfl,rfl,rfl,rfl,rfl,rfl,rfl,rfl,h1,rfl,h12,rfl,h13,trivial⟩) (by kernel_rfl) (by kernel_rfl) (by kernel_rfl) (by kernel_rfl) (by kernel_rfl)
theorem pB3_e (o off len N:Nat) (cs:List AV) (ok:Bool) (m i a:Nat) (a':Nat) (xs:List AV) (h0:(xak (Int.ofNat i) (Int.ofNat m))=false) (h1:(AV.plainL cs)=true) (h2:(AV.plainL xs)=true) :
 xbb Try.prog (xdi tys) 77 4 (xbj (xbg Try.f60 1)) { fr:=xar 77 ([2,4,5,26,27].zip [.ptr (some (0,0)), .ptr (some (1,0)), .ptr (some (2,0)), .int .u8 (Int.ofNat m), .int .u8 (Int.ofNat i)]),ds:=xdp 0,H:=mkL [.cells true 103 7 [.int .u8 (Int.ofNat 0), .int .u8 (Int.ofNat 0), .int .u8 (Int.ofNat 0), .int .u32 (Int.ofNat 0), .int .u8 (Int.ofNat 0), .slice none 0 (some 0), .slice none 0 (some 0)], .cells true 150 2 [.slice (some (3,off)) len none, .bool ok], .cells true 103 7 [.int .u8 (Int.ofNat o), .int .u8 (Int.ofNat 0), .int .u8 (Int.ofNat 0), .int .u32 (Int.ofNat 0), .int .u8 (Int.ofNat 0), .slice (some (4,0)) a none, .slice none 0 (some 0)], .cells true 5 N cs, .cells true 27 a' xs] } (AX.exit 1) ⟨xar 77 ([2,4,5,26,27].zip [.ptr (some (0,0)), .ptr (some (1,0)), .ptr (some (2,0)), .int .u8 (Int.ofNat m), .int .u8 (Int.ofNat i)]),xdp 0,mkL [.cells true 103 7 [.int .u8 (Int.ofNat 0), .int .u8 (Int.ofNat 0), .int .u8 (Int.ofNat 0), .int .u32 (Int.ofNat 0), .int .u8 (Int.ofNat 0), .slice none 0 (some 0), .slice none 0 (some 0)], .cells true 150 2 [.slice (some (3,off)) len none, .bool ok], .cells true 103 7 [.int .u8 (Int.ofNat o), .int .u8 (Int.ofNat 0), .int .u8 (Int.ofNat 0), .int .u32 (Int.ofNat 0), .int .u8 (Int.ofNat 0), .slice (some (4,0)) a none, .slice none 0 (some 0)], .cells true 5 N cs, .cells true 27 a' xs]⟩ :=
 xbh (g:=30) (k:=60) (f:=30) (sl:=[2,4,5,26,27]) (ks:=[0,1,2,3,4]) (rs:=[]) (ds:=[]) (cxZ xbd) xpc (q:=qNs [1]) (c:=(cnF::[])) (cq:=[true,true,true,true,true,true,true,true,true,AV.plainL cs,true,AV.plainL xs]) (by kernel_rfl) ⟨h0,trivial⟩ (xci ⟨rfl,rfl,rfl,rfl,rfl,rfl,rfl,rfl,rfl,h1,rfl,h2,trivial⟩) (by kernel_rfl) (by kernel_rfl) (by kernel_rfl) (by kernel_rfl) (by kernel_rfl)
theorem pB3_3 (o off len N:Nat) (cs:List AV) (ok:Bool) (m i a:Nat) (a':Nat) (xs:List AV) (h0:(xak (Int.ofNat i) (Int.ofNat m))=true) (h1:(AV.plainL cs)=true) (h2:(u8L cs)=true) (h3:(cs.length.beq N)=true) (h4:((off+len).ble N)=true) (h5:(xch 4 a 1)=true) (h6:(a'.beq (a*1))=true) (h7:(xae (AV.int IntKind.u8 (Int.ofNat o)).intOf (Int.ofNat 2))=false) (h8:(AV.plainL (xs++[AV.int IntKind.u32 (Int.ofNat (kept (xdb (seg (xap cs) off len))))]))=true) :
 xbb Try.prog (xdi tys) 77 4 (xbj (xbg Try.f60 1)) { fr:=xar 77 ([2,4,5,26,27].zip [.ptr (some (0,0)), .ptr (some (1,0)), .ptr (some (2,0)), .int .u8 (Int.ofNat m), .int .u8 (Int.ofNat i)]),ds:=xdp 0,H:=mkL [.cells true 103 7 [.int .u8 (Int.ofNat 0), .int .u8 (Int.ofNat 0), .int .u8 (Int.ofNat 0), .int .u32 (Int.ofNat 0), .int .u8 (Int.ofNat 0), .slice none 0 (some 0), .slice none 0 (some 0)], .cells true 150 2 [.slice (some (3,off)) len none, .bool ok], .cells true 103 7 [.int .u8 (Int.ofNat o), .int .u8 (Int.ofNat 0), .int .u8 (Int.ofNat 0), .int .u32 (Int.ofNat 0), .int .u8 (Int.ofNat 0), .slice (some (4,0)) a none, .slice none 0 (some 0)], .cells true 5 N cs, .cells true 27 a' xs] } (AX.normal) ⟨xar 77 ([2,4,5,26,27].zip [.ptr (some (0,0)), .ptr (some (1,0)), .ptr (some (2,0)), .int .u8 (Int.ofNat m), .int .u8 (xaf IntKind.u8 ((Int.ofNat i).add (Int.ofNat 1)))]),xdp 0,mkL [.cells true 103 7 [.int .u8 (Int.ofNat 0), .int .u8 (Int.ofNat 0), .int .u8 (Int.ofNat 0), .int .u32 (Int.ofNat 0), .int .u8 (Int.ofNat 0), .slice none 0 (some 0), .slice none 0 (some 0)], .cells true 150 2 [.slice (some (3,kept (tkO 4 off len))) (kept (tkL 4 len)) none, .bool (kept (ok && Nat.ble 4 len))], .cells true 103 7 [.int .u8 (Int.ofNat o), .int .u8 (Int.ofNat 0), .int .u8 (Int.ofNat 0), .int .u32 (Int.ofNat 0), .int .u8 (Int.ofNat 0), .slice (some (4,0)) (a+1) none, .slice none 0 (some 0)], .cells true 5 N cs, .cells true 27 (xs++[AV.int IntKind.u32 (Int.ofNat (kept (xdb (seg (xap cs) off len))))]).length (xs++[AV.int IntKind.u32 (Int.ofNat (kept (xdb (seg (xap cs) off len))))])]⟩ :=
 xbh (g:=30) (k:=60) (f:=30) (sl:=[2,4,5,26,27]) (ks:=[0,1,2,3,6]) (rs:=[]) (ds:=[]) (cxZ xbd) xpc (q:=qNs [0,14,0,6,0,0,0,0,6,0,7,0,0,11,0,5,0,7,0,6,1]) (c:=(cnT::cnT::cnT::cnT::cnT::cnT::cnT::cnT::cnT::Cnd.same (AV.slice (some (4,0)) a none) (AV.slice (some (4,0)) a none)::Cnd.same (AV.slice (some (4,0)) a none) (AV.slice (some (4,0)) a none)::Cnd.same (AV.agg [AV.int IntKind.u32 (Int.ofNat (kept (xdb (seg (xap cs) off len))))]) (AV.agg [AV.int IntKind.u32 (Int.ofNat (kept (xdb (seg (xap cs) off len))))])::cnF::[])) (cq:=[true,true,true,true,true,true,true,true,true,AV.plainL cs,true,AV.plainL (xs++[AV.int IntKind.u32 (Int.ofNat (kept (xdb (seg (xap cs) off len))))])]) (by kernel_rfl) ⟨h0,h1,h1,h2,h3,h4,h1,h5,h6,rfl,rfl,rfl,h7,trivial⟩ (xci ⟨rfl,rfl,rfl,rfl,rfl,rfl,rfl,rfl,rfl,h1,rfl,h8,trivial⟩) (by kernel_rfl) (by kernel_rfl) (by kernel_rfl) (by kernel_rfl) (by kernel_rfl)
def ppT:List AV × List Blk → Bool:=fun x=>match x.1 with
 | [_,_,_, .int .u8 (.ofNat m),_]=>Nat.beq m 0
 | _=>false
def ppU:List AV × List Blk → Bool:=fun x=>match x.2 with
 | .cells _ _ _ _::.cells _ _ _ _::.cells _ _ _ (.int .u8 o::_)::_=>xae o (Int.ofNat 2)
 | _=>false
def pp0:List AV × List Blk → Option (List Bool × AX × List AV × List Blk):=fun x=>match x with
 | ([.ptr (some (0,0)), .ptr (some (1,0)), .ptr (some (2,0)), .int .u8 (.ofNat m), .int .u8 (.ofNat i)],[.cells true 103 7 [.int .u8 (.ofNat 0), .int .u8 (.ofNat 0), .int .u8 (.ofNat 0), .int .u32 (.ofNat 0), .int .u8 (.ofNat 0), .slice none 0 (some 0), .slice none 0 (some 0)], .cells true 150 2 [.slice (some (3,off)) len none, .bool ok], .cells true 103 7 [.int .u8 (.ofNat o), .int .u8 (.ofNat 0), .int .u8 (.ofNat 0), .int .u32 (.ofNat 0), .int .u8 (.ofNat 0), .slice none 0 (some 0), .slice none 0 (some 0)], .cells true 5 N cs])=>some ([Nat.beq m 0,Nat.beq i 0,AV.plainL cs], .normal,[.ptr (some (0,0)), .ptr (some (1,0)), .ptr (some (2,0)), .int .u8 (Int.ofNat 0), .int .u8 (Int.ofNat 0)],[.cells true 103 7 [.int .u8 (Int.ofNat 0), .int .u8 (Int.ofNat 0), .int .u8 (Int.ofNat 0), .int .u32 (Int.ofNat 0), .int .u8 (Int.ofNat 0), .slice none 0 (some 0), .slice none 0 (some 0)], .cells true 150 2 [.slice (some (3,off)) len none, .bool ok], .cells true 103 7 [.int .u8 (Int.ofNat o), .int .u8 (Int.ofNat 0), .int .u8 (Int.ofNat 0), .int .u32 (Int.ofNat 0), .int .u8 (Int.ofNat 0), .slice none 0 (some 0), .slice none 0 (some 0)], .cells true 5 N cs])
 | _=>none
def pp2:List AV × List Blk → Option (List Bool × AX × List AV × List Blk):=fun x=>match x with
 | ([.ptr (some (0,0)), .ptr (some (1,0)), .ptr (some (2,0)), .int .u8 (.ofNat m), .int .u8 (.ofNat i)],[.cells true 103 7 [.int .u8 (.ofNat 0), .int .u8 (.ofNat 0), .int .u8 (.ofNat 0), .int .u32 (.ofNat 0), .int .u8 (.ofNat 0), .slice none 0 (some 0), .slice none 0 (some 0)], .cells true 150 2 [.slice (some (3,off)) len none, .bool ok], .cells true 103 7 [.int .u8 (.ofNat o), .int .u8 (.ofNat 0), .int .u8 (.ofNat 0), .int .u32 (.ofNat 0), .int .u8 (.ofNat 0), .slice none 0 (some 0), .slice none 0 (some 0)], .cells true 5 N cs])=>some ([u8L cs,Nat.beq cs.length N,Nat.beq (off+len) N,Nat.beq i 0,Nat.ble m 255,Nat.ble 1 m,xae (Int.ofNat o) (Int.ofNat 2)], .normal,[.ptr (some (0,0)), .ptr (some (1,0)), .ptr (some (2,0)), .int .u8 (Int.ofNat m), .int .u8 (Int.ofNat m)],[.cells true 103 7 [.int .u8 (Int.ofNat 0), .int .u8 (Int.ofNat 0), .int .u8 (Int.ofNat 0), .int .u32 (Int.ofNat 0), .int .u8 (Int.ofNat 0), .slice none 0 (some 0), .slice none 0 (some 0)], .cells true 150 2 [.slice (some (3,kept (N - (pR (Int.ofNat o) ((xap cs).drop off) ok m).length))) (kept (pR (Int.ofNat o) ((xap cs).drop off) ok m).length) none, .bool (kept (pK (Int.ofNat o) ((xap cs).drop off) ok m))], .cells true 103 7 [.int .u8 (Int.ofNat o), .int .u8 (Int.ofNat 0), .int .u8 (Int.ofNat 0), .int .u32 (Int.ofNat 0), .int .u8 (Int.ofNat 0), .slice (some (4,0)) m none, .slice (some (5,0)) m none], .cells true 5 N cs, .cells true 27 m (kept (xbs .u32 (pA (Int.ofNat o) ((xap cs).drop off) ok m))), .cells true 36 m (kept (enD (pD (Int.ofNat o) ((xap cs).drop off) ok m)))])
 | _=>none
def pp3:List AV × List Blk → Option (List Bool × AX × List AV × List Blk):=fun x=>match x with
 | ([.ptr (some (0,0)), .ptr (some (1,0)), .ptr (some (2,0)), .int .u8 (.ofNat m), .int .u8 (.ofNat i)],[.cells true 103 7 [.int .u8 (.ofNat 0), .int .u8 (.ofNat 0), .int .u8 (.ofNat 0), .int .u32 (.ofNat 0), .int .u8 (.ofNat 0), .slice none 0 (some 0), .slice none 0 (some 0)], .cells true 150 2 [.slice (some (3,off)) len none, .bool ok], .cells true 103 7 [.int .u8 (.ofNat o), .int .u8 (.ofNat 0), .int .u8 (.ofNat 0), .int .u32 (.ofNat 0), .int .u8 (.ofNat 0), .slice none 0 (some 0), .slice none 0 (some 0)], .cells true 5 N cs])=>some ([u8L cs,Nat.beq cs.length N,Nat.beq (off+len) N,Nat.beq i 0,Nat.ble m 255,Nat.ble 1 m,!xae (Int.ofNat o) (Int.ofNat 2)], .normal,[.ptr (some (0,0)), .ptr (some (1,0)), .ptr (some (2,0)), .int .u8 (Int.ofNat m), .int .u8 (Int.ofNat m)],[.cells true 103 7 [.int .u8 (Int.ofNat 0), .int .u8 (Int.ofNat 0), .int .u8 (Int.ofNat 0), .int .u32 (Int.ofNat 0), .int .u8 (Int.ofNat 0), .slice none 0 (some 0), .slice none 0 (some 0)], .cells true 150 2 [.slice (some (3,kept (N - (pR (Int.ofNat o) ((xap cs).drop off) ok m).length))) (kept (pR (Int.ofNat o) ((xap cs).drop off) ok m).length) none, .bool (kept (pK (Int.ofNat o) ((xap cs).drop off) ok m))], .cells true 103 7 [.int .u8 (Int.ofNat o), .int .u8 (Int.ofNat 0), .int .u8 (Int.ofNat 0), .int .u32 (Int.ofNat 0), .int .u8 (Int.ofNat 0), .slice (some (4,0)) m none, .slice none 0 (some 0)], .cells true 5 N cs, .cells true 27 m (kept (xbs .u32 (pA (Int.ofNat o) ((xap cs).drop off) ok m)))])
 | _=>none
def ppL:ZLT:=⟨77,xbg Try.f60 1,[2,4,5,26,27],0,[], .node ppT (.leaf pp0) (.node ppU (.leaf pp2) (.leaf pp3))⟩
def pp2E (o off len:Nat) (w:List UInt8) (ok:Bool) (m:Nat) (i:Nat):ZSt:=match i with
 | 0=>([.ptr (some (0,0)), .ptr (some (1,0)), .ptr (some (2,0)), .int .u8 (Int.ofNat m), .int .u8 (Int.ofNat 0)],[.cells true 103 7 [.int .u8 (Int.ofNat 0), .int .u8 (Int.ofNat 0), .int .u8 (Int.ofNat 0), .int .u32 (Int.ofNat 0), .int .u8 (Int.ofNat 0), .slice none 0 (some 0), .slice none 0 (some 0)], .cells true 150 2 [.slice (some (3,off)) len none, .bool ok], .cells true 103 7 [.int .u8 (Int.ofNat o), .int .u8 (Int.ofNat 0), .int .u8 (Int.ofNat 0), .int .u32 (Int.ofNat 0), .int .u8 (Int.ofNat 0), .slice none 0 (some 0), .slice none 0 (some 0)], .cells true 5 w.length (ofBytes w)])
 | j+1=>([.ptr (some (0,0)), .ptr (some (1,0)), .ptr (some (2,0)), .int .u8 (Int.ofNat m), .int .u8 (Int.ofNat (j+1))],[.cells true 103 7 [.int .u8 (Int.ofNat 0), .int .u8 (Int.ofNat 0), .int .u8 (Int.ofNat 0), .int .u32 (Int.ofNat 0), .int .u8 (Int.ofNat 0), .slice none 0 (some 0), .slice none 0 (some 0)], .cells true 150 2 [.slice (some (3,(w.length - (pR (Int.ofNat o) (w.drop off) ok (j+1)).length))) (pR (Int.ofNat o) (w.drop off) ok (j+1)).length none, .bool (pK (Int.ofNat o) (w.drop off) ok (j+1))], .cells true 103 7 [.int .u8 (Int.ofNat o), .int .u8 (Int.ofNat 0), .int .u8 (Int.ofNat 0), .int .u32 (Int.ofNat 0), .int .u8 (Int.ofNat 0), .slice (some (4,0)) (j+1) none, .slice (some (5,0)) (j+1) none], .cells true 5 w.length (ofBytes w), .cells true 27 (j+1) (xbs .u32 (pA (Int.ofNat o) (w.drop off) ok (j+1))), .cells true 36 (j+1) (enD (pD (Int.ofNat o) (w.drop off) ok (j+1)))])
theorem pp2E_some (o off len:Nat) (w:List UInt8) (ok:Bool) (m:Nat) (i:Nat) (h:i ≠ 0):pp2E o off len w ok m i=([.ptr (some (0,0)), .ptr (some (1,0)), .ptr (some (2,0)), .int .u8 (Int.ofNat m), .int .u8 (Int.ofNat i)],[.cells true 103 7 [.int .u8 (Int.ofNat 0), .int .u8 (Int.ofNat 0), .int .u8 (Int.ofNat 0), .int .u32 (Int.ofNat 0), .int .u8 (Int.ofNat 0), .slice none 0 (some 0), .slice none 0 (some 0)], .cells true 150 2 [.slice (some (3,(w.length - (pR (Int.ofNat o) (w.drop off) ok i).length))) (pR (Int.ofNat o) (w.drop off) ok i).length none, .bool (pK (Int.ofNat o) (w.drop off) ok i)], .cells true 103 7 [.int .u8 (Int.ofNat o), .int .u8 (Int.ofNat 0), .int .u8 (Int.ofNat 0), .int .u32 (Int.ofNat 0), .int .u8 (Int.ofNat 0), .slice (some (4,0)) i none, .slice (some (5,0)) i none], .cells true 5 w.length (ofBytes w), .cells true 27 i (xbs .u32 (pA (Int.ofNat o) (w.drop off) ok i)), .cells true 36 i (enD (pD (Int.ofNat o) (w.drop off) ok i))]):=by
 cases i with
 | zero=>exact absurd rfl h
 | succ j=>rfl
def pp3E (o off len:Nat) (w:List UInt8) (ok:Bool) (m:Nat) (i:Nat):ZSt:=match i with
 | 0=>([.ptr (some (0,0)), .ptr (some (1,0)), .ptr (some (2,0)), .int .u8 (Int.ofNat m), .int .u8 (Int.ofNat 0)],[.cells true 103 7 [.int .u8 (Int.ofNat 0), .int .u8 (Int.ofNat 0), .int .u8 (Int.ofNat 0), .int .u32 (Int.ofNat 0), .int .u8 (Int.ofNat 0), .slice none 0 (some 0), .slice none 0 (some 0)], .cells true 150 2 [.slice (some (3,off)) len none, .bool ok], .cells true 103 7 [.int .u8 (Int.ofNat o), .int .u8 (Int.ofNat 0), .int .u8 (Int.ofNat 0), .int .u32 (Int.ofNat 0), .int .u8 (Int.ofNat 0), .slice none 0 (some 0), .slice none 0 (some 0)], .cells true 5 w.length (ofBytes w)])
 | j+1=>([.ptr (some (0,0)), .ptr (some (1,0)), .ptr (some (2,0)), .int .u8 (Int.ofNat m), .int .u8 (Int.ofNat (j+1))],[.cells true 103 7 [.int .u8 (Int.ofNat 0), .int .u8 (Int.ofNat 0), .int .u8 (Int.ofNat 0), .int .u32 (Int.ofNat 0), .int .u8 (Int.ofNat 0), .slice none 0 (some 0), .slice none 0 (some 0)], .cells true 150 2 [.slice (some (3,(w.length - (pR (Int.ofNat o) (w.drop off) ok (j+1)).length))) (pR (Int.ofNat o) (w.drop off) ok (j+1)).length none, .bool (pK (Int.ofNat o) (w.drop off) ok (j+1))], .cells true 103 7 [.int .u8 (Int.ofNat o), .int .u8 (Int.ofNat 0), .int .u8 (Int.ofNat 0), .int .u32 (Int.ofNat 0), .int .u8 (Int.ofNat 0), .slice (some (4,0)) (j+1) none, .slice none 0 (some 0)], .cells true 5 w.length (ofBytes w), .cells true 27 (j+1) (xbs .u32 (pA (Int.ofNat o) (w.drop off) ok (j+1)))])
theorem pp3E_some (o off len:Nat) (w:List UInt8) (ok:Bool) (m:Nat) (i:Nat) (h:i ≠ 0):pp3E o off len w ok m i=([.ptr (some (0,0)), .ptr (some (1,0)), .ptr (some (2,0)), .int .u8 (Int.ofNat m), .int .u8 (Int.ofNat i)],[.cells true 103 7 [.int .u8 (Int.ofNat 0), .int .u8 (Int.ofNat 0), .int .u8 (Int.ofNat 0), .int .u32 (Int.ofNat 0), .int .u8 (Int.ofNat 0), .slice none 0 (some 0), .slice none 0 (some 0)], .cells true 150 2 [.slice (some (3,(w.length - (pR (Int.ofNat o) (w.drop off) ok i).length))) (pR (Int.ofNat o) (w.drop off) ok i).length none, .bool (pK (Int.ofNat o) (w.drop off) ok i)], .cells true 103 7 [.int .u8 (Int.ofNat o), .int .u8 (Int.ofNat 0), .int .u8 (Int.ofNat 0), .int .u32 (Int.ofNat 0), .int .u8 (Int.ofNat 0), .slice (some (4,0)) i none, .slice none 0 (some 0)], .cells true 5 w.length (ofBytes w), .cells true 27 i (xbs .u32 (pA (Int.ofNat o) (w.drop off) ok i))]):=by
 cases i with
 | zero=>exact absurd rfl h
 | succ j=>rfl
set_option maxHeartbeats 4000000 in
theorem ppL_ok:ppL.OK Try.prog (xdi tys) (xbz tys) 1:=by
 refine ⟨?_,?_,?_⟩
 · intro vs bs conds X vs' bs' h hc hin
   have h:pp0 (vs,bs)=some (conds,X,vs',bs'):=h
   unfold pp0 at h
   split at h
   · rename_i m i off len ok o N cs he
     injection he with he1 he2
     subst he1;subst he2
     injection h with h;injection h with e1 h;injection h with e2 h;injection h with e3 e4
     subst e1;subst e2;subst e3;subst e4
     simp only [xah] at hc
     obtain ⟨c1,c2,p1,_⟩:=hc
     have c1:=xaj c1
     have c2:=xaj c2
     subst c1;subst c2
     have k0:xak (Int.ofNat 0) (Int.ofNat 0)=false:=rfl
     have key:=xbb.loop (P:=Try.prog) (cx:=xdi tys) (nn:=77) (n0:=4) (b:=xbj (xbg Try.f60 1)) (fun _:Unit=>(ppL.at pp0).st ([.ptr (some (0,0)), .ptr (some (1,0)), .ptr (some (2,0)), .int .u8 (Int.ofNat 0), .int .u8 (Int.ofNat 0)],[.cells true 103 7 [.int .u8 (Int.ofNat 0), .int .u8 (Int.ofNat 0), .int .u8 (Int.ofNat 0), .int .u32 (Int.ofNat 0), .int .u8 (Int.ofNat 0), .slice none 0 (some 0), .slice none 0 (some 0)], .cells true 150 2 [.slice (some (3,off)) len none, .bool ok], .cells true 103 7 [.int .u8 (Int.ofNat o), .int .u8 (Int.ofNat 0), .int .u8 (Int.ofNat 0), .int .u32 (Int.ofNat 0), .int .u8 (Int.ofNat 0), .slice none 0 (some 0), .slice none 0 (some 0)], .cells true 5 N cs]))
      (fun _=>(.exit 1,(ppL.at pp0).st ([.ptr (some (0,0)), .ptr (some (1,0)), .ptr (some (2,0)), .int .u8 (Int.ofNat 0), .int .u8 (Int.ofNat 0)],[.cells true 103 7 [.int .u8 (Int.ofNat 0), .int .u8 (Int.ofNat 0), .int .u8 (Int.ofNat 0), .int .u32 (Int.ofNat 0), .int .u8 (Int.ofNat 0), .slice none 0 (some 0), .slice none 0 (some 0)], .cells true 150 2 [.slice (some (3,off)) len none, .bool ok], .cells true 103 7 [.int .u8 (Int.ofNat o), .int .u8 (Int.ofNat 0), .int .u8 (Int.ofNat 0), .int .u32 (Int.ofNat 0), .int .u8 (Int.ofNat 0), .slice none 0 (some 0), .slice none 0 (some 0)], .cells true 5 N cs]))) (fun _=>0) (fun _=>.inr ⟨pA_e o off len N cs ok 0 0 k0 p1,by simp⟩) ()
     exact xbb.block 1 key
   · cases h
 · intro vs bs conds X vs' bs' h hc hin
   have h:pp2 (vs,bs)=some (conds,X,vs',bs'):=h
   unfold pp2 at h
   split at h
   · rename_i m i off len ok o N cs he
     injection he with he1 he2
     subst he1;subst he2
     injection h with h;injection h with e1 h;injection h with e2 h;injection h with e3 e4
     subst e1;subst e2;subst e3;subst e4
     simp only [xah] at hc
     obtain ⟨c1,c2,c3,c4,c5,c6,c7,_⟩:=hc
     obtain ⟨w,rfl⟩:=xdr.1 c1
     have c2:=xaj c2
     have c3:=xaj c3
     have c4:=xaj c4
     rw [xad] at c2
     subst c2;subst c4
     have c5:=Nat.le_of_ble_eq_true c5
     have c6:=Nat.le_of_ble_eq_true c6
     have o2:Int.ofNat o=2:=by rw [xaz,beq_iff_eq] at c7;exact c7
     have k2:xae (Int.ofNat o) (Int.ofNat 2)=true:=c7
     simp only [xab,xal]
     have key:=xbb.loop (P:=Try.prog) (cx:=xdi tys) (nn:=77) (n0:=4) (b:=xbj (xbg Try.f60 1)) (fun q:{i:Nat // i ≤ m}=>(ppL.at pp2).st (pp2E o off len w ok m q.1))
      (fun q=>(.exit 1,(ppL.at pp2).st (pp2E o off len w ok m (m)))) (fun q=>m - q.1) (fun q=>by
      obtain ⟨i,hi⟩:=q
      simp only
      by_cases hlt:i < m
      · refine .inl ⟨⟨i+1,hlt⟩,?_,trivial,by simp only;omega⟩
        have k0:xak (Int.ofNat i) (Int.ofNat (m))=true:=by rw [xat];exact decide_eq_true (by show (i:Int) < ((m:Nat):Int);omega)
        have hw:xaf .u8 ((Int.ofNat i).add (Int.ofNat 1))=Int.ofNat (i+1):=xbe .u8 (i+1) (by show _ < 256;omega)
        have z0:(Int.ofNat i).toNat=i:=rfl
        have hsuf:pR (Int.ofNat o) (w.drop off) ok i <:+ w:=(pst_suf _ _ _ _).trans (List.drop_suffix _ _)
        cases i with
        | zero =>
         have hl:len=(pR (Int.ofNat o) (w.drop off) ok 0).length:=by show len=(w.drop off).length;rw [List.length_drop];omega
         have hs:seg w off len=(pR (Int.ofNat o) (w.drop off) ok 0):=by show _=w.drop off;unfold seg;rw [List.take_of_length_le (by rw [List.length_drop];omega)]
         have ho:off+len=w.length:=c3
         have t4:=xdy 4 hsuf hl ho
         have s4:rsB 4 (pR (Int.ofNat o) (w.drop off) ok 0) <:+ w:=(xdg 4 _).trans hsuf
         have n4:=s4.length_le
         have nr:=hsuf.length_le
         have hs4:=xdk s4
         have t440:=xdy 440 s4 rfl (off:=w.length - (rsB 4 (pR (Int.ofNat o) (w.drop off) ok 0)).length) (by omega)
         have tl:(tkB 440 (rsB 4 (pR (Int.ofNat o) (w.drop off) ok 0))).length=440:=xfv _ _
         have pl:AV.plainL (ofBytes (tkB 440 (rsB 4 (pR (Int.ofNat o) (w.drop off) ok 0))))=true:=xao _
         have ea:xbs .u32 (pA (Int.ofNat o) (w.drop off) ok 0)++[AV.int .u32 (Int.ofNat (xdb (pR (Int.ofNat o) (w.drop off) ok 0)))]=xbs .u32 (pA (Int.ofNat o) (w.drop off) ok (0+1)):=by
          have:pA (Int.ofNat o) (w.drop off) ok (0+1)=pA (Int.ofNat o) (w.drop off) ok 0++[nuB (pR (Int.ofNat o) (w.drop off) ok 0)]:=by unfold pA pR;simp only [pst];split <;> rfl
          rw [this,← xgl];rfl
         have ed:enD (pD (Int.ofNat o) (w.drop off) ok 0)++[AV.fsl false 440 (ofBytes (tkB 440 (rsB 4 (pR (Int.ofNat o) (w.drop off) ok 0))))]=enD (pD (Int.ofNat o) (w.drop off) ok (0+1)):=by
          have:pD (Int.ofNat o) (w.drop off) ok (0+1)=pD (Int.ofNat o) (w.drop off) ok 0++[tkB 440 (rsB 4 (pR (Int.ofNat o) (w.drop off) ok 0))]:=by unfold pD pR;simp only [pst,if_pos o2]
          rw [this,enD_snoc _ _ tl]
         have er:rsB 440 (rsB 4 (pR (Int.ofNat o) (w.drop off) ok 0))=pR (Int.ofNat o) (w.drop off) ok (0+1):=by unfold pR;simp only [pst,if_pos o2]
         have ek:((ok && Nat.ble 4 len) && Nat.ble 440 (rsB 4 (pR (Int.ofNat o) (w.drop off) ok 0)).length)=pK (Int.ofNat o) (w.drop off) ok (0+1):=by rw [hl];unfold pK pR;simp only [pst,if_pos o2]
         have dl:(enD (pD (Int.ofNat o) (w.drop off) ok (0+1))).length=0+1:=by rw [xhl,show Int.ofNat o=2 from o2,xro]
         have al:(xbs .u32 (pA (Int.ofNat o) (w.drop off) ok (0+1))).length=0+1:=by rw [xag,xgv]
         have ea:[AV.int .u32 (Int.ofNat (xdb (pR (Int.ofNat o) (w.drop off) ok 0)))]=xbs .u32 (pA (Int.ofNat o) (w.drop off) ok (0+1)):=ea
         have ed:[AV.fsl false 440 (ofBytes (tkB 440 (rsB 4 (pR (Int.ofNat o) (w.drop off) ok 0))))]=enD (pD (Int.ofNat o) (w.drop off) ok (0+1)):=ed
         have key:=pA_2 o off len w.length (ofBytes w) ok m 0
         iterate 9
          replace key:=key (by
           (try simp only [xab,xal,AV.intOf,k0,k2,hw,Nat.zero_add,Nat.mul_one,hs,t4.1,t4.2,hs4,ea,al,t440.1,t440.2,pl,ed,dl])
           first
            | done
            | with_reducible rfl
            | with_reducible exact xao _
            | with_reducible exact xbc _
            | with_reducible exact xaw _ _
            | with_reducible exact xfh _
            | with_reducible exact room4 (by omega)
            | with_reducible exact room24 (by omega)
            | (rw [xad];exact Nat.beq_refl _)
            | (rw [xbq];exact decide_eq_true (by omega))
            | (simp [xbn,xbq];done)
            | (simp [xbn,xbq,AV.plain,AV.plainL,xao];done))
         simp only [xab,xal,AV.intOf,k0,k2,hw,Nat.zero_add,Nat.mul_one,hs,t4.1,t4.2,hs4,ea,al,t440.1,t440.2,pl,ed,dl,er,ek] at key
         exact key
        | succ j =>
         have hl:(pR (Int.ofNat o) (w.drop off) ok (j+1)).length=(pR (Int.ofNat o) (w.drop off) ok (j+1)).length:=rfl
         have hs:seg w (w.length - (pR (Int.ofNat o) (w.drop off) ok (j+1)).length) (pR (Int.ofNat o) (w.drop off) ok (j+1)).length=(pR (Int.ofNat o) (w.drop off) ok (j+1)):=xdk hsuf
         have ho:(w.length - (pR (Int.ofNat o) (w.drop off) ok (j+1)).length)+(pR (Int.ofNat o) (w.drop off) ok (j+1)).length=w.length:=by have:=hsuf.length_le;omega
         have t4:=xdy 4 hsuf hl ho
         have s4:rsB 4 (pR (Int.ofNat o) (w.drop off) ok (j+1)) <:+ w:=(xdg 4 _).trans hsuf
         have n4:=s4.length_le
         have nr:=hsuf.length_le
         have hs4:=xdk s4
         have t440:=xdy 440 s4 rfl (off:=w.length - (rsB 4 (pR (Int.ofNat o) (w.drop off) ok (j+1))).length) (by omega)
         have tl:(tkB 440 (rsB 4 (pR (Int.ofNat o) (w.drop off) ok (j+1)))).length=440:=xfv _ _
         have pl:AV.plainL (ofBytes (tkB 440 (rsB 4 (pR (Int.ofNat o) (w.drop off) ok (j+1)))))=true:=xao _
         have ea:xbs .u32 (pA (Int.ofNat o) (w.drop off) ok (j+1))++[AV.int .u32 (Int.ofNat (xdb (pR (Int.ofNat o) (w.drop off) ok (j+1))))]=xbs .u32 (pA (Int.ofNat o) (w.drop off) ok ((j+1)+1)):=by
          have:pA (Int.ofNat o) (w.drop off) ok ((j+1)+1)=pA (Int.ofNat o) (w.drop off) ok (j+1)++[nuB (pR (Int.ofNat o) (w.drop off) ok (j+1))]:=by unfold pA pR;simp only [pst];split <;> rfl
          rw [this,← xgl];rfl
         have ed:enD (pD (Int.ofNat o) (w.drop off) ok (j+1))++[AV.fsl false 440 (ofBytes (tkB 440 (rsB 4 (pR (Int.ofNat o) (w.drop off) ok (j+1)))))]=enD (pD (Int.ofNat o) (w.drop off) ok ((j+1)+1)):=by
          have:pD (Int.ofNat o) (w.drop off) ok ((j+1)+1)=pD (Int.ofNat o) (w.drop off) ok (j+1)++[tkB 440 (rsB 4 (pR (Int.ofNat o) (w.drop off) ok (j+1)))]:=by unfold pD pR;simp only [pst,if_pos o2]
          rw [this,enD_snoc _ _ tl]
         have er:rsB 440 (rsB 4 (pR (Int.ofNat o) (w.drop off) ok (j+1)))=pR (Int.ofNat o) (w.drop off) ok ((j+1)+1):=by unfold pR;simp only [pst,if_pos o2]
         have ek:(((pK (Int.ofNat o) (w.drop off) ok (j+1)) && Nat.ble 4 (pR (Int.ofNat o) (w.drop off) ok (j+1)).length) && Nat.ble 440 (rsB 4 (pR (Int.ofNat o) (w.drop off) ok (j+1))).length)=pK (Int.ofNat o) (w.drop off) ok ((j+1)+1):=by unfold pK pR;simp only [pst,if_pos o2]
         have dl:(enD (pD (Int.ofNat o) (w.drop off) ok ((j+1)+1))).length=(j+1)+1:=by rw [xhl,show Int.ofNat o=2 from o2,xro]
         have al:(xbs .u32 (pA (Int.ofNat o) (w.drop off) ok ((j+1)+1))).length=(j+1)+1:=by rw [xag,xgv]
         have key:=pB2_2 o (w.length - (pR (Int.ofNat o) (w.drop off) ok (j+1)).length) (pR (Int.ofNat o) (w.drop off) ok (j+1)).length w.length (ofBytes w) (pK (Int.ofNat o) (w.drop off) ok (j+1)) m (j+1) (j+1) (j+1) (j+1) (j+1) (xbs .u32 (pA (Int.ofNat o) (w.drop off) ok (j+1))) (enD (pD (Int.ofNat o) (w.drop off) ok (j+1)))
         iterate 14
          replace key:=key (by
           (try simp only [xab,xal,AV.intOf,k0,k2,hw,Nat.zero_add,Nat.mul_one,hs,t4.1,t4.2,hs4,ea,al,t440.1,t440.2,pl,ed,dl])
           first
            | done
            | with_reducible rfl
            | with_reducible exact xao _
            | with_reducible exact xbc _
            | with_reducible exact xaw _ _
            | with_reducible exact xfh _
            | with_reducible exact room4 (by omega)
            | with_reducible exact room24 (by omega)
            | (rw [xad];exact Nat.beq_refl _)
            | (rw [xbq];exact decide_eq_true (by omega))
            | (simp [xbn,xbq];done)
            | (simp [xbn,xbq,AV.plain,AV.plainL,xao];done))
         simp only [xab,xal,AV.intOf,k0,k2,hw,Nat.zero_add,Nat.mul_one,hs,t4.1,t4.2,hs4,ea,al,t440.1,t440.2,pl,ed,dl,er,ek] at key
         exact key
      · have hi:m=i:=by omega
        subst hi
        refine .inr ⟨?_,by simp⟩
        have k0:xak (Int.ofNat (m)) (Int.ofNat (m))=false:=by rw [xat];exact decide_eq_false (by show ¬ ((m:Nat):Int) < ((m:Nat):Int);omega)
        rw [pp2E_some o off len w ok m _ (by omega)]
        exact pB2_e o (w.length - (pR (Int.ofNat o) (w.drop off) ok m).length) (pR (Int.ofNat o) (w.drop off) ok m).length w.length (ofBytes w) (pK (Int.ofNat o) (w.drop off) ok m) m m m m m m (xbs .u32 (pA (Int.ofNat o) (w.drop off) ok m)) (enD (pD (Int.ofNat o) (w.drop off) ok m)) k0 (xao _) (xaw _ _) (xfh _)) ⟨0,Nat.zero_le _⟩
     rw [pp2E_some o off len w ok m m (by omega)] at key
     exact xbb.block 1 key
   · cases h
 · intro vs bs conds X vs' bs' h hc hin
   have h:pp3 (vs,bs)=some (conds,X,vs',bs'):=h
   unfold pp3 at h
   split at h
   · rename_i m i off len ok o N cs he
     injection he with he1 he2
     subst he1;subst he2
     injection h with h;injection h with e1 h;injection h with e2 h;injection h with e3 e4
     subst e1;subst e2;subst e3;subst e4
     simp only [xah] at hc
     obtain ⟨c1,c2,c3,c4,c5,c6,c7,_⟩:=hc
     obtain ⟨w,rfl⟩:=xdr.1 c1
     have c2:=xaj c2
     have c3:=xaj c3
     have c4:=xaj c4
     rw [xad] at c2
     subst c2;subst c4
     have c5:=Nat.le_of_ble_eq_true c5
     have c6:=Nat.le_of_ble_eq_true c6
     have o2:Int.ofNat o ≠ 2:=by rw [Bool.not_eq_true',xaz,beq_eq_false_iff_ne] at c7;exact c7
     have k2:xae (Int.ofNat o) (Int.ofNat 2)=false:=by rw [xaz];exact beq_eq_false_iff_ne.2 o2
     simp only [xab,xal]
     have key:=xbb.loop (P:=Try.prog) (cx:=xdi tys) (nn:=77) (n0:=4) (b:=xbj (xbg Try.f60 1)) (fun q:{i:Nat // i ≤ m}=>(ppL.at pp3).st (pp3E o off len w ok m q.1))
      (fun q=>(.exit 1,(ppL.at pp3).st (pp3E o off len w ok m (m)))) (fun q=>m - q.1) (fun q=>by
      obtain ⟨i,hi⟩:=q
      simp only
      by_cases hlt:i < m
      · refine .inl ⟨⟨i+1,hlt⟩,?_,trivial,by simp only;omega⟩
        have k0:xak (Int.ofNat i) (Int.ofNat (m))=true:=by rw [xat];exact decide_eq_true (by show (i:Int) < ((m:Nat):Int);omega)
        have hw:xaf .u8 ((Int.ofNat i).add (Int.ofNat 1))=Int.ofNat (i+1):=xbe .u8 (i+1) (by show _ < 256;omega)
        have z0:(Int.ofNat i).toNat=i:=rfl
        have hsuf:pR (Int.ofNat o) (w.drop off) ok i <:+ w:=(pst_suf _ _ _ _).trans (List.drop_suffix _ _)
        cases i with
        | zero =>
         have hl:len=(pR (Int.ofNat o) (w.drop off) ok 0).length:=by show len=(w.drop off).length;rw [List.length_drop];omega
         have hs:seg w off len=(pR (Int.ofNat o) (w.drop off) ok 0):=by show _=w.drop off;unfold seg;rw [List.take_of_length_le (by rw [List.length_drop];omega)]
         have ho:off+len=w.length:=c3
         have t4:=xdy 4 hsuf hl ho
         have s4:rsB 4 (pR (Int.ofNat o) (w.drop off) ok 0) <:+ w:=(xdg 4 _).trans hsuf
         have n4:=s4.length_le
         have nr:=hsuf.length_le
         have hs4:=xdk s4
         have ea:xbs .u32 (pA (Int.ofNat o) (w.drop off) ok 0)++[AV.int .u32 (Int.ofNat (xdb (pR (Int.ofNat o) (w.drop off) ok 0)))]=xbs .u32 (pA (Int.ofNat o) (w.drop off) ok (0+1)):=by
          have:pA (Int.ofNat o) (w.drop off) ok (0+1)=pA (Int.ofNat o) (w.drop off) ok 0++[nuB (pR (Int.ofNat o) (w.drop off) ok 0)]:=by unfold pA pR;simp only [pst];split <;> rfl
          rw [this,← xgl];rfl
         have er:rsB 4 (pR (Int.ofNat o) (w.drop off) ok 0)=pR (Int.ofNat o) (w.drop off) ok (0+1):=by unfold pR;simp only [pst,if_neg o2]
         have ek:(ok && Nat.ble 4 len)=pK (Int.ofNat o) (w.drop off) ok (0+1):=by rw [hl];unfold pK pR;simp only [pst,if_neg o2]
         have al:(xbs .u32 (pA (Int.ofNat o) (w.drop off) ok (0+1))).length=0+1:=by rw [xag,xgv]
         have ea:[AV.int .u32 (Int.ofNat (xdb (pR (Int.ofNat o) (w.drop off) ok 0)))]=xbs .u32 (pA (Int.ofNat o) (w.drop off) ok (0+1)):=ea
         have key:=pA_3 o off len w.length (ofBytes w) ok m 0
         iterate 6
          replace key:=key (by
           (try simp only [xab,xal,AV.intOf,k0,k2,hw,Nat.zero_add,Nat.mul_one,hs,t4.1,t4.2,hs4,ea,al])
           first
            | done
            | with_reducible rfl
            | with_reducible exact xao _
            | with_reducible exact xbc _
            | with_reducible exact xaw _ _
            | with_reducible exact xfh _
            | with_reducible exact room4 (by omega)
            | with_reducible exact room24 (by omega)
            | (rw [xad];exact Nat.beq_refl _)
            | (rw [xbq];exact decide_eq_true (by omega))
            | (simp [xbn,xbq];done)
            | (simp [xbn,xbq,AV.plain,AV.plainL,xao];done))
         simp only [xab,xal,AV.intOf,k0,k2,hw,Nat.zero_add,Nat.mul_one,hs,t4.1,t4.2,hs4,ea,al,er,ek] at key
         exact key
        | succ j =>
         have hl:(pR (Int.ofNat o) (w.drop off) ok (j+1)).length=(pR (Int.ofNat o) (w.drop off) ok (j+1)).length:=rfl
         have hs:seg w (w.length - (pR (Int.ofNat o) (w.drop off) ok (j+1)).length) (pR (Int.ofNat o) (w.drop off) ok (j+1)).length=(pR (Int.ofNat o) (w.drop off) ok (j+1)):=xdk hsuf
         have ho:(w.length - (pR (Int.ofNat o) (w.drop off) ok (j+1)).length)+(pR (Int.ofNat o) (w.drop off) ok (j+1)).length=w.length:=by have:=hsuf.length_le;omega
         have t4:=xdy 4 hsuf hl ho
         have s4:rsB 4 (pR (Int.ofNat o) (w.drop off) ok (j+1)) <:+ w:=(xdg 4 _).trans hsuf
         have n4:=s4.length_le
         have nr:=hsuf.length_le
         have hs4:=xdk s4
         have ea:xbs .u32 (pA (Int.ofNat o) (w.drop off) ok (j+1))++[AV.int .u32 (Int.ofNat (xdb (pR (Int.ofNat o) (w.drop off) ok (j+1))))]=xbs .u32 (pA (Int.ofNat o) (w.drop off) ok ((j+1)+1)):=by
          have:pA (Int.ofNat o) (w.drop off) ok ((j+1)+1)=pA (Int.ofNat o) (w.drop off) ok (j+1)++[nuB (pR (Int.ofNat o) (w.drop off) ok (j+1))]:=by unfold pA pR;simp only [pst];split <;> rfl
          rw [this,← xgl];rfl
         have er:rsB 4 (pR (Int.ofNat o) (w.drop off) ok (j+1))=pR (Int.ofNat o) (w.drop off) ok ((j+1)+1):=by unfold pR;simp only [pst,if_neg o2]
         have ek:((pK (Int.ofNat o) (w.drop off) ok (j+1)) && Nat.ble 4 (pR (Int.ofNat o) (w.drop off) ok (j+1)).length)=pK (Int.ofNat o) (w.drop off) ok ((j+1)+1):=by unfold pK pR;simp only [pst,if_neg o2]
         have al:(xbs .u32 (pA (Int.ofNat o) (w.drop off) ok ((j+1)+1))).length=(j+1)+1:=by rw [xag,xgv]
         have key:=pB3_3 o (w.length - (pR (Int.ofNat o) (w.drop off) ok (j+1)).length) (pR (Int.ofNat o) (w.drop off) ok (j+1)).length w.length (ofBytes w) (pK (Int.ofNat o) (w.drop off) ok (j+1)) m (j+1) (j+1) (j+1) (xbs .u32 (pA (Int.ofNat o) (w.drop off) ok (j+1)))
         iterate 9
          replace key:=key (by
           (try simp only [xab,xal,AV.intOf,k0,k2,hw,Nat.zero_add,Nat.mul_one,hs,t4.1,t4.2,hs4,ea,al])
           first
            | done
            | with_reducible rfl
            | with_reducible exact xao _
            | with_reducible exact xbc _
            | with_reducible exact xaw _ _
            | with_reducible exact xfh _
            | with_reducible exact room4 (by omega)
            | with_reducible exact room24 (by omega)
            | (rw [xad];exact Nat.beq_refl _)
            | (rw [xbq];exact decide_eq_true (by omega))
            | (simp [xbn,xbq];done)
            | (simp [xbn,xbq,AV.plain,AV.plainL,xao];done))
         simp only [xab,xal,AV.intOf,k0,k2,hw,Nat.zero_add,Nat.mul_one,hs,t4.1,t4.2,hs4,ea,al,er,ek] at key
         exact key
      · have hi:m=i:=by omega
        subst hi
        refine .inr ⟨?_,by simp⟩
        have k0:xak (Int.ofNat (m)) (Int.ofNat (m))=false:=by rw [xat];exact decide_eq_false (by show ¬ ((m:Nat):Int) < ((m:Nat):Int);omega)
        rw [pp3E_some o off len w ok m _ (by omega)]
        exact pB3_e o (w.length - (pR (Int.ofNat o) (w.drop off) ok m).length) (pR (Int.ofNat o) (w.drop off) ok m).length w.length (ofBytes w) (pK (Int.ofNat o) (w.drop off) ok m) m m m m (xbs .u32 (pA (Int.ofNat o) (w.drop off) ok m)) k0 (xao _) (xaw _ _)) ⟨0,Nat.zero_le _⟩
     rw [pp3E_some o off len w ok m m (by omega)] at key
     exact xbb.block 1 key
   · cases h
end Go.Proofs.Ytecncappdnhbaaa
end
end

section
noncomputable section
namespace Go.Proofs.Ytecncappdnhbaaa
open Go.Ab.M Go.Ab Go
def K10q:xem:={ t:=[(95,rightR.rt)],z:=[(98,takeZ.zt),(96,byteZ.zt),(97,numZ.zt)],l:=[((60,1),ppL)] }
theorem K10q_ok:KOK Try.prog tys K10q:=⟨⟨xcf.rt_sound xol,trivial⟩,trivial,⟨xsg,byteZ_ok,numZ_ok,trivial⟩,trivial,⟨ppL_ok,trivial⟩⟩
abbrev C10q:=xdt tys fns K10q
theorem all10q:xcy Try.prog C10q:=xdw K10q_ok
end Go.Proofs.Ytecncappdnhbaaa
end
end

section
noncomputable section
namespace Go.Ab.M
structure PQ where
 k:Bool
 r:List UInt8
 sub:Nat
 pl:Nat
 fi:Nat
 ct:Nat
 a:List UInt32
 d:List (List UInt8)
def xel (w:List UInt8):PQ :=
 let r1:=rsB 1 w
 let k1:=Nat.ble 1 w.length
 if hdN w=1 then ⟨(k1 && Nat.ble 4 r1.length) && Nat.ble 1 (rsB 4 r1).length,rsB 1 (rsB 4 r1),0,0,xdb r1,hdN (rsB 4 r1),[],[]⟩
 else if hdN w=2 ∨ hdN w=3 then ⟨pK (Int.ofNat (hdN w)) (rsB 1 r1) (k1 && Nat.ble 1 r1.length) (hdN r1),pR (Int.ofNat (hdN w)) (rsB 1 r1) (k1 && Nat.ble 1 r1.length) (hdN r1),0,0,0,0,pA (Int.ofNat (hdN w)) (rsB 1 r1) (k1 && Nat.ble 1 r1.length) (hdN r1),pD (Int.ofNat (hdN w)) (rsB 1 r1) (k1 && Nat.ble 1 r1.length) (hdN r1)⟩
 else if hdN w=5 ∨ hdN w=6 ∨ hdN w=7 then ⟨(k1 && Nat.ble 1 r1.length) && Nat.ble 1 (rsB 1 r1).length,rsB 1 (rsB 1 r1),hdN r1,hdN (rsB 1 r1),0,0,[],[]⟩
 else ⟨k1,r1,0,0,0,0,[],[]⟩
def xqk (w:List UInt8):Bool:=xbi (Int.ofNat (hdN w)) (Int.ofNat (xel w).sub) (Int.ofNat (xel w).pl) (Int.ofNat (xel w).fi) (Int.ofNat (xel w).ct) (xel w).a.length (xel w).d.length (enD (xel w).d)
def xbu (w:List UInt8):Bool:=(xel w).k && (Nat.beq (xel w).r.length 0 && xqk w)
def xmc (w:List UInt8):Nat:=(xel w).sub
def qPl (w:List UInt8):Nat:=(xel w).pl
def qFi (w:List UInt8):Nat:=(xel w).fi
def qCt (w:List UInt8):Nat:=(xel w).ct
def qA (w:List UInt8):List UInt32:=(xel w).a
def qD (w:List UInt8):List (List UInt8):=(xel w).d
def xgh (n:Nat):Bool:=Nat.beq n 0
end Go.Ab.M
namespace Go.Proofs.Ytecncappdnhbaaa
open Go.Ab.M Go.Ab Go
abbrev zA (N:Nat) (cs:List AV):=(kept (hdN (seg (xap cs) 0 N)))
abbrev zB (N:Nat) (cs:List AV):=(kept (hdN (seg (xap cs) (kept (tkO 1 0 N)) (kept (tkL 1 N)))))
abbrev zO (N:Nat):=(kept (tkO 1 (kept (tkO 1 0 N)) (kept (tkL 1 N))))
abbrev zK (N:Nat):=(kept (kept (true && Nat.ble 1 N) && Nat.ble 1 (kept (tkL 1 N))))
abbrev zR (N:Nat) (cs:List AV):=(pR (Int.ofNat (zA N cs)) (List.drop (zO N) (xap cs)) (zK N) (zB N cs))
abbrev zP (N:Nat) (cs:List AV):=(pK (Int.ofNat (zA N cs)) (List.drop (zO N) (xap cs)) (zK N) (zB N cs))
abbrev zU (N:Nat) (cs:List AV):=(kept (xbs IntKind.u32 (pA (Int.ofNat (zA N cs)) (List.drop (zO N) (xap cs)) (zK N) (zB N cs))))
abbrev zD (N:Nat) (cs:List AV):=(kept (enD (pD (Int.ofNat (zA N cs)) (List.drop (zO N) (xap cs)) (zK N) (zB N cs))))
abbrev zC (N:Nat) (cs:List AV):=xbl C10q 60 (Tgt.fn 60) [.slice (some (0,0)) N none] (mkL [.cells true 5 N cs])
abbrev zV :=[AV.int IntKind.u8 (Int.ofNat 0),AV.int IntKind.u8 (Int.ofNat 0),AV.int IntKind.u8 (Int.ofNat 0),AV.int IntKind.u32 (Int.ofNat 0),AV.int IntKind.u8 (Int.ofNat 0),AV.slice none 0 (some 0),AV.slice none 0 (some 0)]
abbrev zH (N:Nat) (cs:List AV):=(kept (hdN (seg (xap cs) (zO N) (kept (tkL 1 (kept (tkL 1 N)))))))
theorem PL:(∀ l,AV.plainL (ofBytes l)=true)∧(∀ l,u8L (ofBytes l)=true)∧(∀ k l,AV.plainL (xbs k l)=true)∧(∀ l,AV.plainL (enD l)=true)∧(∀ l,isD (enD l)=true)∧(∀ l,(ofBytes l).length=l.length)∧(∀ l,(enD l).length=l.length)∧(∀ n,Nat.beq n n=true)∧(∀ n,Nat.ble n n=true) :=
 ⟨xao,xbc,xaw,xfh,fun l=>xgk.2 ⟨_,rfl⟩,xad,xhl,Nat.beq_refl,fun n=>Nat.ble_eq_true_of_le (Nat.le_refl n)⟩
theorem ZL:(∀ N cs,zA N cs=kept (hdN (seg (xap cs) 0 N)))∧(∀ N cs,zB N cs=kept (hdN (seg (xap cs) (kept (tkO 1 0 N)) (kept (tkL 1 N)))))∧(∀ N,zO N=kept (tkO 1 (kept (tkO 1 0 N)) (kept (tkL 1 N))))∧(∀ N,zK N=kept (kept (true && Nat.ble 1 N) && Nat.ble 1 (kept (tkL 1 N))))∧(∀ N cs,zR N cs=pR (Int.ofNat (zA N cs)) (List.drop (zO N) (xap cs)) (zK N) (zB N cs))∧(∀ N cs,zP N cs=pK (Int.ofNat (zA N cs)) (List.drop (zO N) (xap cs)) (zK N) (zB N cs))∧(∀ N cs,zU N cs=kept (xbs IntKind.u32 (pA (Int.ofNat (zA N cs)) (List.drop (zO N) (xap cs)) (zK N) (zB N cs))))∧(∀ N cs,zD N cs=kept (enD (pD (Int.ofNat (zA N cs)) (List.drop (zO N) (xap cs)) (zK N) (zB N cs))))∧(∀ N cs,zH N cs=kept (hdN (seg (xap cs) (zO N) (kept (tkL 1 (kept (tkL 1 N)))))))∧((!true)=false)∧((!false)=true)∧(∀ w,xap (ofBytes w)=w)∧(∀ k n,(AV.int k n).intOf=n)∧(∀ b,(AV.bool b).boolOf=b)∧(∀ b,(true && b)=b) :=
 ⟨fun _ _=>rfl,fun _ _=>rfl,fun _=>rfl,fun _=>rfl,fun _ _=>rfl,fun _ _=>rfl,fun _ _=>rfl,fun _ _=>rfl,fun _ _=>rfl,rfl,rfl,xal,fun _ _=>rfl,fun _=>rfl,Bool.true_and⟩
abbrev VGd (w:List UInt8):AV:=(.tuple [.agg [.int .u8 (Int.ofNat (hdN w)), .int .u8 (Int.ofNat (xmc w)), .int .u8 (Int.ofNat (qPl w)), .int .u32 (Int.ofNat (qFi w)), .int .u8 (Int.ofNat (qCt w)), .fsl (xgh (qA w).length) (qA w).length (xbs .u32 (qA w)), .fsl (xgh (qD w).length) (qD w).length (enD (qD w))], .int .i64 (Int.ofNat 0)])
abbrev VBd:AV:=(.tuple [.agg [.int .u8 (Int.ofNat 0), .int .u8 (Int.ofNat 0), .int .u8 (Int.ofNat 0), .int .u32 (Int.ofNat 0), .int .u8 (Int.ofNat 0), .fsl true 0 [], .fsl true 0 []], .int .i64 (Int.ofNat 3)])
theorem Pa_tt (N:Nat) (cs:List AV) (h0:(AV.plainL cs)=true) (h1:(u8L cs)=true) (h2:(cs.length.beq N)=true) (h3:((0+N).ble N)=true) (h4:(xae (Int.ofNat (zA N cs)) (Int.ofNat 1))=true) (h5:((kept (tkO 1 0 N)+kept (tkL 1 N)).ble N)=true) (h6:((kept (tkO 4 (kept (tkO 1 0 N)) (kept (tkL 1 N)))+kept (tkL 4 (kept (tkL 1 N)))).ble N)=true) (h7:(!(AV.bool (kept (kept (kept (true && Nat.ble 1 N) && Nat.ble 4 (kept (tkL 1 N))) && Nat.ble 1 (kept (tkL 4 (kept (tkL 1 N))))))).boolOf)=true) :
 ∃ h',zC N cs=some (AV.tuple [AV.agg zV,AV.int IntKind.i64 (Int.ofNat 3)],h')∧[0].map h'.get=[Blk.cells true 5 N cs] :=
 xaa (q:=qNs [15,0,6,0,0,0,0,6,0,8,0,11,0,6,0,0,0,0,6,0,11,0,6,0,0,0,0,6,0,11,0,0,0,0,0,0,0,25]) (c:=(cnT::cnT::cnT::cnT::cnT::cnT::cnT::cnT::cnT::cnT::cnT::cnT::cnT::cnT::cnT::cnT::cnT::cnT::cnT::cnT::cnT::cnT::cnT::cnT::cnT::cnT::[])) (by kernel_rfl) ⟨h0,h0,h1,h2,h3,h0,h4,h0,h0,h1,h2,h5,h0,h0,h0,h1,h2,h6,h0,h7,h7,h7,h7,h7,h7,h7,trivial⟩
theorem Pa_tft (N:Nat) (cs:List AV) (h0:(AV.plainL cs)=true) (h1:(u8L cs)=true) (h2:(cs.length.beq N)=true) (h3:((0+N).ble N)=true) (h4:(xae (Int.ofNat (zA N cs)) (Int.ofNat 1))=true) (h5:((kept (tkO 1 0 N)+kept (tkL 1 N)).ble N)=true) (h6:((kept (tkO 4 (kept (tkO 1 0 N)) (kept (tkL 1 N)))+kept (tkL 4 (kept (tkL 1 N)))).ble N)=true) (h7:(!(AV.bool (kept (kept (kept (true && Nat.ble 1 N) && Nat.ble 4 (kept (tkL 1 N))) && Nat.ble 1 (kept (tkL 4 (kept (tkL 1 N))))))).boolOf)=false) (h8:(xak (Int.ofNat 0) (Int.ofNat (kept (tkL 1 (kept (tkL 4 (kept (tkL 1 N))))))))=true) :
 ∃ h',zC N cs=some (AV.tuple [AV.agg zV,AV.int IntKind.i64 (Int.ofNat 3)],h')∧[0].map h'.get=[Blk.cells true 5 N cs] :=
 xaa (q:=qNs [15,0,6,0,0,0,0,6,0,8,0,11,0,6,0,0,0,0,6,0,11,0,6,0,0,0,0,6,0,11,1,1,1,1,5,1,1,1,0,0,0,0,21]) (c:=(cnT::cnT::cnT::cnT::cnT::cnT::cnT::cnT::cnT::cnT::cnT::cnT::cnT::cnT::cnT::cnT::cnT::cnT::cnT::cnF::cnF::cnF::cnF::cnF::cnF::cnF::cnT::cnT::cnT::cnT::[])) (by kernel_rfl) ⟨h0,h0,h1,h2,h3,h0,h4,h0,h0,h1,h2,h5,h0,h0,h0,h1,h2,h6,h0,h7,h7,h7,h7,h7,h7,h7,h8,h8,h8,h8,trivial⟩
theorem Pa_tfft (N:Nat) (cs:List AV) (h0:(AV.plainL cs)=true) (h1:(u8L cs)=true) (h2:(cs.length.beq N)=true) (h3:((0+N).ble N)=true) (h4:(xae (Int.ofNat (zA N cs)) (Int.ofNat 1))=true) (h5:((kept (tkO 1 0 N)+kept (tkL 1 N)).ble N)=true) (h6:((kept (tkO 4 (kept (tkO 1 0 N)) (kept (tkL 1 N)))+kept (tkL 4 (kept (tkL 1 N)))).ble N)=true) (h7:(!(AV.bool (kept (kept (kept (true && Nat.ble 1 N) && Nat.ble 4 (kept (tkL 1 N))) && Nat.ble 1 (kept (tkL 4 (kept (tkL 1 N))))))).boolOf)=false) (h8:(xak (Int.ofNat 0) (Int.ofNat (kept (tkL 1 (kept (tkL 4 (kept (tkL 1 N))))))))=false) (h9:(xbr (AV.int IntKind.u8 (Int.ofNat (kept (hdN (seg (xap cs) (kept (tkO 4 (kept (tkO 1 0 N)) (kept (tkL 1 N)))) (kept (tkL 4 (kept (tkL 1 N))))))))).intOf (Int.ofNat 255))=true) (h10:(!kept (xbi (Int.ofNat (zA N cs)) (Int.ofNat 0) (Int.ofNat 0) (AV.int IntKind.u32 (Int.ofNat (kept (xdb (seg (xap cs) (kept (tkO 1 0 N)) (kept (tkL 1 N))))))).intOf (AV.int IntKind.u8 (Int.ofNat (kept (hdN (seg (xap cs) (kept (tkO 4 (kept (tkO 1 0 N)) (kept (tkL 1 N)))) (kept (tkL 4 (kept (tkL 1 N))))))))).intOf 0 0 []))=true) :
 ∃ h',zC N cs=some (AV.tuple [AV.agg zV,AV.int IntKind.i64 (Int.ofNat 3)],h')∧[0].map h'.get=[Blk.cells true 5 N cs] :=
 xaa (q:=qNs [15,0,6,0,0,0,0,6,0,8,0,11,0,6,0,0,0,0,6,0,11,0,6,0,0,0,0,6,0,11,1,1,1,1,5,1,1,1,1,17,1,5,0,6,1,1,0,20]) (c:=(cnT::cnT::cnT::cnT::cnT::cnT::cnT::cnT::cnT::cnT::cnT::cnT::cnT::cnT::cnT::cnT::cnT::cnT::cnT::cnF::cnF::cnF::cnF::cnF::cnF::cnF::cnF::cnF::cnT::cnF::cnF::cnT::[])) (by kernel_rfl) ⟨h0,h0,h1,h2,h3,h0,h4,h0,h0,h1,h2,h5,h0,h0,h0,h1,h2,h6,h0,h7,h7,h7,h7,h7,h7,h7,h8,h8,h9,h8,h8,h10,trivial⟩
theorem Pa_tfff (N:Nat) (cs:List AV) (h0:(AV.plainL cs)=true) (h1:(u8L cs)=true) (h2:(cs.length.beq N)=true) (h3:((0+N).ble N)=true) (h4:(xae (Int.ofNat (zA N cs)) (Int.ofNat 1))=true) (h5:((kept (tkO 1 0 N)+kept (tkL 1 N)).ble N)=true) (h6:((kept (tkO 4 (kept (tkO 1 0 N)) (kept (tkL 1 N)))+kept (tkL 4 (kept (tkL 1 N)))).ble N)=true) (h7:(!(AV.bool (kept (kept (kept (true && Nat.ble 1 N) && Nat.ble 4 (kept (tkL 1 N))) && Nat.ble 1 (kept (tkL 4 (kept (tkL 1 N))))))).boolOf)=false) (h8:(xak (Int.ofNat 0) (Int.ofNat (kept (tkL 1 (kept (tkL 4 (kept (tkL 1 N))))))))=false) (h9:(xbr (AV.int IntKind.u8 (Int.ofNat (kept (hdN (seg (xap cs) (kept (tkO 4 (kept (tkO 1 0 N)) (kept (tkL 1 N)))) (kept (tkL 4 (kept (tkL 1 N))))))))).intOf (Int.ofNat 255))=true) (h10:(!kept (xbi (Int.ofNat (zA N cs)) (Int.ofNat 0) (Int.ofNat 0) (AV.int IntKind.u32 (Int.ofNat (kept (xdb (seg (xap cs) (kept (tkO 1 0 N)) (kept (tkL 1 N))))))).intOf (AV.int IntKind.u8 (Int.ofNat (kept (hdN (seg (xap cs) (kept (tkO 4 (kept (tkO 1 0 N)) (kept (tkL 1 N)))) (kept (tkL 4 (kept (tkL 1 N))))))))).intOf 0 0 []))=false) :
 ∃ h',zC N cs=some (AV.tuple [AV.agg [AV.int IntKind.u8 (Int.ofNat (zA N cs)),AV.int IntKind.u8 (Int.ofNat 0),AV.int IntKind.u8 (Int.ofNat 0),AV.int IntKind.u32 (AV.int IntKind.u32 (AV.int IntKind.u32 (Int.ofNat (kept (xdb (seg (xap cs) (kept (tkO 1 0 N)) (kept (tkL 1 N))))))).intOf).intOf,AV.int IntKind.u8 (AV.int IntKind.u8 (AV.int IntKind.u8 (Int.ofNat (kept (hdN (seg (xap cs) (kept (tkO 4 (kept (tkO 1 0 N)) (kept (tkL 1 N)))) (kept (tkL 4 (kept (tkL 1 N))))))))).intOf).intOf,AV.slice none 0 (some 0),AV.slice none 0 (some 0)],AV.int IntKind.i64 (Int.ofNat 0)],h')∧[0].map h'.get=[Blk.cells true 5 N cs] :=
 xaa (q:=qNs [15,0,6,0,0,0,0,6,0,8,0,11,0,6,0,0,0,0,6,0,11,0,6,0,0,0,0,6,0,11,1,1,1,1,5,1,1,1,1,17,1,5,0,6,1,1,1,35]) (c:=(cnT::cnT::cnT::cnT::cnT::cnT::cnT::cnT::cnT::cnT::cnT::cnT::cnT::cnT::cnT::cnT::cnT::cnT::cnT::cnF::cnF::cnF::cnF::cnF::cnF::cnF::cnF::cnF::cnT::cnF::cnF::cnF::[])) (by kernel_rfl) ⟨h0,h0,h1,h2,h3,h0,h4,h0,h0,h1,h2,h5,h0,h0,h0,h1,h2,h6,h0,h7,h7,h7,h7,h7,h7,h7,h8,h8,h9,h8,h8,h10,trivial⟩
theorem Pa_fttt (N:Nat) (cs:List AV) (h0:(AV.plainL cs)=true) (h1:(u8L cs)=true) (h2:(cs.length.beq N)=true) (h3:((0+N).ble N)=true) (h4:(xae (Int.ofNat (zA N cs)) (Int.ofNat 1))=false) (h5:(xae (Int.ofNat (zA N cs)) (Int.ofNat 2))=true) (h6:((kept (tkO 1 0 N)+kept (tkL 1 N)).ble N)=true) (h7:((zB N cs).beq 0)=true) (h8:(!(AV.bool (zK N)).boolOf)=true) :
 ∃ h',zC N cs=some (AV.tuple [AV.agg zV,AV.int IntKind.i64 (Int.ofNat 3)],h')∧[0].map h'.get=[Blk.cells true 5 N cs] :=
 xaa (q:=qNs [15,0,6,0,0,0,0,6,0,8,1,0,0,11,0,6,0,0,0,0,6,0,0,20,0,10,0,0,3,0,11,0,5,0,0,0,0,0,0,0,25]) (c:=(cnT::cnT::cnT::cnT::cnT::cnT::cnF::cnT::cnT::cnT::cnT::cnT::cnT::cnT::cnT::Cnd.code (ZLT.lsumS (xbz tys) ((60,1),ppL).snd).fst (ZLT.lsumS (xbz tys) ((60,1),ppL).snd).fst::cnT::cnT::cnT::cnT::cnT::cnT::cnT::cnT::cnT::cnT::cnT::cnT::cnT::[])) (by kernel_rfl) ⟨h0,h0,h1,h2,h3,h0,h4,h5,h5,h0,h0,h1,h2,h6,h0,rfl,h7,h0,h0,h7,h0,h0,h8,h8,h8,h8,h8,h8,h8,trivial⟩
theorem Pa_fttft (N:Nat) (cs:List AV) (h0:(AV.plainL cs)=true) (h1:(u8L cs)=true) (h2:(cs.length.beq N)=true) (h3:((0+N).ble N)=true) (h4:(xae (Int.ofNat (zA N cs)) (Int.ofNat 1))=false) (h5:(xae (Int.ofNat (zA N cs)) (Int.ofNat 2))=true) (h6:((kept (tkO 1 0 N)+kept (tkL 1 N)).ble N)=true) (h7:((zB N cs).beq 0)=true) (h8:(!(AV.bool (zK N)).boolOf)=false) (h9:(xak (Int.ofNat 0) (Int.ofNat (kept (tkL 1 (kept (tkL 1 N))))))=true) :
 ∃ h',zC N cs=some (AV.tuple [AV.agg zV,AV.int IntKind.i64 (Int.ofNat 3)],h')∧[0].map h'.get=[Blk.cells true 5 N cs] :=
 xaa (q:=qNs [15,0,6,0,0,0,0,6,0,8,1,0,0,11,0,6,0,0,0,0,6,0,0,20,0,10,0,0,3,0,11,0,5,1,1,1,1,5,1,1,1,0,0,0,0,21]) (c:=(cnT::cnT::cnT::cnT::cnT::cnT::cnF::cnT::cnT::cnT::cnT::cnT::cnT::cnT::cnT::Cnd.code (ZLT.lsumS (xbz tys) ((60,1),ppL).snd).fst (ZLT.lsumS (xbz tys) ((60,1),ppL).snd).fst::cnT::cnT::cnT::cnT::cnT::cnT::cnF::cnF::cnF::cnF::cnF::cnF::cnF::cnT::cnT::cnT::cnT::[])) (by kernel_rfl) ⟨h0,h0,h1,h2,h3,h0,h4,h5,h5,h0,h0,h1,h2,h6,h0,rfl,h7,h0,h0,h7,h0,h0,h8,h8,h8,h8,h8,h8,h8,h9,h9,h9,h9,trivial⟩
theorem Pa_ftftt (N:Nat) (cs:List AV) (h0:(AV.plainL cs)=true) (h1:(u8L cs)=true) (h2:(cs.length.beq N)=true) (h3:((0+N).ble N)=true) (h4:(xae (Int.ofNat (zA N cs)) (Int.ofNat 1))=false) (h5:(xae (Int.ofNat (zA N cs)) (Int.ofNat 2))=true) (h6:((kept (tkO 1 0 N)+kept (tkL 1 N)).ble N)=true) (h7:((zB N cs).beq 0)=false) (h8:(xae (Int.ofNat (zA N cs)) (Int.ofNat 2))=true) (h9:((kept (tkO 1 (kept (tkO 1 0 N)) (kept (tkL 1 N)))+kept (tkL 1 (kept (tkL 1 N)))).beq N)=true) (h10:((zB N cs).ble 255)=true) (h11:(Nat.ble 1 (zB N cs))=true) (h12:(AV.plainL (zU N cs))=true) (h13:(AV.plainL (zD N cs))=true) (h14:(!(AV.bool (kept (zP N cs))).boolOf)=true) :
 ∃ h',zC N cs=some (AV.tuple [AV.agg zV,AV.int IntKind.i64 (Int.ofNat 3)],h')∧[0].map h'.get=[Blk.cells true 5 N cs] :=
 xaa (q:=qNs [15,0,6,0,0,0,0,6,0,8,1,0,0,11,0,6,0,0,0,0,6,0,1,0,20,0,10,0,0,0,0,3,0,0,0,13,0,3,0,3,0,5,0,0,0,0,0,0,0,25]) (c:=(cnT::cnT::cnT::cnT::cnT::cnT::cnF::cnT::cnT::cnT::cnT::cnT::cnT::cnT::cnT::Cnd.code (ZLT.lsumS (xbz tys) ((60,1),ppL).snd).fst (ZLT.lsumS (xbz tys) ((60,1),ppL).snd).fst::cnF::cnT::cnT::cnT::cnT::cnT::cnT::cnT::cnT::cnT::cnT::cnT::cnT::cnT::cnT::cnT::cnT::cnT::cnT::cnT::[])) (by kernel_rfl) ⟨h0,h0,h1,h2,h3,h0,h4,h5,h5,h0,h0,h1,h2,h6,h0,rfl,h7,h8,h0,h0,h1,h2,h9,h10,h11,h8,h0,h12,h13,h14,h14,h14,h14,h14,h14,h14,trivial⟩
theorem Pa_ffttt (N:Nat) (cs:List AV) (h0:(AV.plainL cs)=true) (h1:(u8L cs)=true) (h2:(cs.length.beq N)=true) (h3:((0+N).ble N)=true) (h4:(xae (Int.ofNat (zA N cs)) (Int.ofNat 1))=false) (h5:(xae (Int.ofNat (zA N cs)) (Int.ofNat 2))=false) (h6:(xae (Int.ofNat (zA N cs)) (Int.ofNat 3))=true) (h7:((kept (tkO 1 0 N)+kept (tkL 1 N)).ble N)=true) (h8:((zB N cs).beq 0)=true) (h9:(!(AV.bool (zK N)).boolOf)=true) :
 ∃ h',zC N cs=some (AV.tuple [AV.agg zV,AV.int IntKind.i64 (Int.ofNat 3)],h')∧[0].map h'.get=[Blk.cells true 5 N cs] :=
 xaa (q:=qNs [15,0,6,0,0,0,0,6,0,8,1,1,0,11,0,6,0,0,0,0,6,0,0,20,0,10,0,0,3,0,11,0,5,0,0,0,0,0,0,0,25]) (c:=(cnT::cnT::cnT::cnT::cnT::cnT::cnF::cnF::cnT::cnT::cnT::cnT::cnT::cnT::cnT::Cnd.code (ZLT.lsumS (xbz tys) ((60,1),ppL).snd).fst (ZLT.lsumS (xbz tys) ((60,1),ppL).snd).fst::cnT::cnT::cnT::cnT::cnT::cnT::cnT::cnT::cnT::cnT::cnT::cnT::cnT::[])) (by kernel_rfl) ⟨h0,h0,h1,h2,h3,h0,h4,h5,h6,h0,h0,h1,h2,h7,h0,rfl,h8,h0,h0,h8,h0,h0,h9,h9,h9,h9,h9,h9,h9,trivial⟩
theorem Pa_ffftt (N:Nat) (cs:List AV) (h0:(AV.plainL cs)=true) (h1:(u8L cs)=true) (h2:(cs.length.beq N)=true) (h3:((0+N).ble N)=true) (h4:(xae (Int.ofNat (zA N cs)) (Int.ofNat 1))=false) (h5:(xae (Int.ofNat (zA N cs)) (Int.ofNat 2))=false) (h6:(xae (Int.ofNat (zA N cs)) (Int.ofNat 3))=false) (h7:(xae (Int.ofNat (zA N cs)) (Int.ofNat 5))=true) (h8:((kept (tkO 1 0 N)+kept (tkL 1 N)).ble N)=true) (h9:((kept (tkO 1 (kept (tkO 1 0 N)) (kept (tkL 1 N)))+kept (tkL 1 (kept (tkL 1 N)))).ble N)=true) (h10:(!(AV.bool (kept (kept (kept (true && Nat.ble 1 N) && Nat.ble 1 (kept (tkL 1 N))) && Nat.ble 1 (kept (tkL 1 (kept (tkL 1 N))))))).boolOf)=true) :
 ∃ h',zC N cs=some (AV.tuple [AV.agg zV,AV.int IntKind.i64 (Int.ofNat 3)],h')∧[0].map h'.get=[Blk.cells true 5 N cs] :=
 xaa (q:=qNs [15,0,6,0,0,0,0,6,0,8,1,1,1,0,0,11,0,6,0,0,0,0,6,0,11,0,6,0,0,0,0,6,0,11,0,0,0,0,0,0,0,25]) (c:=(cnT::cnT::cnT::cnT::cnT::cnT::cnF::cnF::cnF::cnT::cnT::cnT::cnT::cnT::cnT::cnT::cnT::cnT::cnT::cnT::cnT::cnT::cnT::cnT::cnT::cnT::cnT::cnT::cnT::cnT::[])) (by kernel_rfl) ⟨h0,h0,h1,h2,h3,h0,h4,h5,h6,h7,h7,h0,h0,h1,h2,h8,h0,h0,h0,h1,h2,h9,h0,h10,h10,h10,h10,h10,h10,h10,trivial⟩
theorem Pa_fttfft (N:Nat) (cs:List AV) (h0:(AV.plainL cs)=true) (h1:(u8L cs)=true) (h2:(cs.length.beq N)=true) (h3:((0+N).ble N)=true) (h4:(xae (Int.ofNat (zA N cs)) (Int.ofNat 1))=false) (h5:(xae (Int.ofNat (zA N cs)) (Int.ofNat 2))=true) (h6:((kept (tkO 1 0 N)+kept (tkL 1 N)).ble N)=true) (h7:((zB N cs).beq 0)=true) (h8:(!(AV.bool (zK N)).boolOf)=false) (h9:(xak (Int.ofNat 0) (Int.ofNat (kept (tkL 1 (kept (tkL 1 N))))))=false) (h10:(!kept (xbi (Int.ofNat (zA N cs)) (Int.ofNat 0) (Int.ofNat 0) (Int.ofNat 0) (Int.ofNat 0) 0 0 []))=true) :
 ∃ h',zC N cs=some (AV.tuple [AV.agg zV,AV.int IntKind.i64 (Int.ofNat 3)],h')∧[0].map h'.get=[Blk.cells true 5 N cs] :=
 xaa (q:=qNs [15,0,6,0,0,0,0,6,0,8,1,0,0,11,0,6,0,0,0,0,6,0,0,20,0,10,0,0,3,0,11,0,5,1,1,1,1,5,1,1,1,1,17,1,10,1,1,0,20]) (c:=(cnT::cnT::cnT::cnT::cnT::cnT::cnF::cnT::cnT::cnT::cnT::cnT::cnT::cnT::cnT::Cnd.code (ZLT.lsumS (xbz tys) ((60,1),ppL).snd).fst (ZLT.lsumS (xbz tys) ((60,1),ppL).snd).fst::cnT::cnT::cnT::cnT::cnT::cnT::cnF::cnF::cnF::cnF::cnF::cnF::cnF::cnF::cnF::cnF::cnF::cnT::[])) (by kernel_rfl) ⟨h0,h0,h1,h2,h3,h0,h4,h5,h5,h0,h0,h1,h2,h6,h0,rfl,h7,h0,h0,h7,h0,h0,h8,h8,h8,h8,h8,h8,h8,h9,h9,h9,h9,h10,trivial⟩
theorem Pa_fttfff (N:Nat) (cs:List AV) (h0:(AV.plainL cs)=true) (h1:(u8L cs)=true) (h2:(cs.length.beq N)=true) (h3:((0+N).ble N)=true) (h4:(xae (Int.ofNat (zA N cs)) (Int.ofNat 1))=false) (h5:(xae (Int.ofNat (zA N cs)) (Int.ofNat 2))=true) (h6:((kept (tkO 1 0 N)+kept (tkL 1 N)).ble N)=true) (h7:((zB N cs).beq 0)=true) (h8:(!(AV.bool (zK N)).boolOf)=false) (h9:(xak (Int.ofNat 0) (Int.ofNat (kept (tkL 1 (kept (tkL 1 N))))))=false) (h10:(!kept (xbi (Int.ofNat (zA N cs)) (Int.ofNat 0) (Int.ofNat 0) (Int.ofNat 0) (Int.ofNat 0) 0 0 []))=false) :
 ∃ h',zC N cs=some (AV.tuple [AV.agg [AV.int IntKind.u8 (Int.ofNat (zA N cs)),AV.int IntKind.u8 (Int.ofNat 0),AV.int IntKind.u8 (Int.ofNat 0),AV.int IntKind.u32 (Int.ofNat 0),AV.int IntKind.u8 (Int.ofNat 0),AV.slice none 0 (some 0),AV.slice none 0 (some 0)],AV.int IntKind.i64 (Int.ofNat 0)],h')∧[0].map h'.get=[Blk.cells true 5 N cs] :=
 xaa (q:=qNs [15,0,6,0,0,0,0,6,0,8,1,0,0,11,0,6,0,0,0,0,6,0,0,20,0,10,0,0,3,0,11,0,5,1,1,1,1,5,1,1,1,1,17,1,10,1,1,1,35]) (c:=(cnT::cnT::cnT::cnT::cnT::cnT::cnF::cnT::cnT::cnT::cnT::cnT::cnT::cnT::cnT::Cnd.code (ZLT.lsumS (xbz tys) ((60,1),ppL).snd).fst (ZLT.lsumS (xbz tys) ((60,1),ppL).snd).fst::cnT::cnT::cnT::cnT::cnT::cnT::cnF::cnF::cnF::cnF::cnF::cnF::cnF::cnF::cnF::cnF::cnF::cnF::[])) (by kernel_rfl) ⟨h0,h0,h1,h2,h3,h0,h4,h5,h5,h0,h0,h1,h2,h6,h0,rfl,h7,h0,h0,h7,h0,h0,h8,h8,h8,h8,h8,h8,h8,h9,h9,h9,h9,h10,trivial⟩
theorem Pa_ftftft (N:Nat) (cs:List AV) (h0:(AV.plainL cs)=true) (h1:(u8L cs)=true) (h2:(cs.length.beq N)=true) (h3:((0+N).ble N)=true) (h4:(xae (Int.ofNat (zA N cs)) (Int.ofNat 1))=false) (h5:(xae (Int.ofNat (zA N cs)) (Int.ofNat 2))=true) (h6:((kept (tkO 1 0 N)+kept (tkL 1 N)).ble N)=true) (h7:((zB N cs).beq 0)=false) (h8:(xae (Int.ofNat (zA N cs)) (Int.ofNat 2))=true) (h9:((kept (tkO 1 (kept (tkO 1 0 N)) (kept (tkL 1 N)))+kept (tkL 1 (kept (tkL 1 N)))).beq N)=true) (h10:((zB N cs).ble 255)=true) (h11:(Nat.ble 1 (zB N cs))=true) (h12:(AV.plainL (zU N cs))=true) (h13:(AV.plainL (zD N cs))=true) (h14:(!(AV.bool (kept (zP N cs))).boolOf)=false) (h15:(xak (Int.ofNat 0) (Int.ofNat (kept (zR N cs).length)))=true) :
 ∃ h',zC N cs=some (AV.tuple [AV.agg zV,AV.int IntKind.i64 (Int.ofNat 3)],h')∧[0].map h'.get=[Blk.cells true 5 N cs] :=
 xaa (q:=qNs [15,0,6,0,0,0,0,6,0,8,1,0,0,11,0,6,0,0,0,0,6,0,1,0,20,0,10,0,0,0,0,3,0,0,0,13,0,3,0,3,0,5,1,1,1,1,5,1,1,1,0,0,0,0,21]) (c:=(cnT::cnT::cnT::cnT::cnT::cnT::cnF::cnT::cnT::cnT::cnT::cnT::cnT::cnT::cnT::Cnd.code (ZLT.lsumS (xbz tys) ((60,1),ppL).snd).fst (ZLT.lsumS (xbz tys) ((60,1),ppL).snd).fst::cnF::cnT::cnT::cnT::cnT::cnT::cnT::cnT::cnT::cnT::cnT::cnT::cnT::cnF::cnF::cnF::cnF::cnF::cnF::cnF::cnT::cnT::cnT::cnT::[])) (by kernel_rfl) ⟨h0,h0,h1,h2,h3,h0,h4,h5,h5,h0,h0,h1,h2,h6,h0,rfl,h7,h8,h0,h0,h1,h2,h9,h10,h11,h8,h0,h12,h13,h14,h14,h14,h14,h14,h14,h14,h15,h15,h15,h15,trivial⟩
theorem Pa_ffttft (N:Nat) (cs:List AV) (h0:(AV.plainL cs)=true) (h1:(u8L cs)=true) (h2:(cs.length.beq N)=true) (h3:((0+N).ble N)=true) (h4:(xae (Int.ofNat (zA N cs)) (Int.ofNat 1))=false) (h5:(xae (Int.ofNat (zA N cs)) (Int.ofNat 2))=false) (h6:(xae (Int.ofNat (zA N cs)) (Int.ofNat 3))=true) (h7:((kept (tkO 1 0 N)+kept (tkL 1 N)).ble N)=true) (h8:((zB N cs).beq 0)=true) (h9:(!(AV.bool (zK N)).boolOf)=false) (h10:(xak (Int.ofNat 0) (Int.ofNat (kept (tkL 1 (kept (tkL 1 N))))))=true) :
 ∃ h',zC N cs=some (AV.tuple [AV.agg zV,AV.int IntKind.i64 (Int.ofNat 3)],h')∧[0].map h'.get=[Blk.cells true 5 N cs] :=
 xaa (q:=qNs [15,0,6,0,0,0,0,6,0,8,1,1,0,11,0,6,0,0,0,0,6,0,0,20,0,10,0,0,3,0,11,0,5,1,1,1,1,5,1,1,1,0,0,0,0,21]) (c:=(cnT::cnT::cnT::cnT::cnT::cnT::cnF::cnF::cnT::cnT::cnT::cnT::cnT::cnT::cnT::Cnd.code (ZLT.lsumS (xbz tys) ((60,1),ppL).snd).fst (ZLT.lsumS (xbz tys) ((60,1),ppL).snd).fst::cnT::cnT::cnT::cnT::cnT::cnT::cnF::cnF::cnF::cnF::cnF::cnF::cnF::cnT::cnT::cnT::cnT::[])) (by kernel_rfl) ⟨h0,h0,h1,h2,h3,h0,h4,h5,h6,h0,h0,h1,h2,h7,h0,rfl,h8,h0,h0,h8,h0,h0,h9,h9,h9,h9,h9,h9,h9,h10,h10,h10,h10,trivial⟩
theorem Pa_fftfft (N:Nat) (cs:List AV) (h0:(AV.plainL cs)=true) (h1:(u8L cs)=true) (h2:(cs.length.beq N)=true) (h3:((0+N).ble N)=true) (h4:(xae (Int.ofNat (zA N cs)) (Int.ofNat 1))=false) (h5:(xae (Int.ofNat (zA N cs)) (Int.ofNat 2))=false) (h6:(xae (Int.ofNat (zA N cs)) (Int.ofNat 3))=true) (h7:((kept (tkO 1 0 N)+kept (tkL 1 N)).ble N)=true) (h8:((zB N cs).beq 0)=false) (h9:(xae (Int.ofNat (zA N cs)) (Int.ofNat 2))=false) (h10:((kept (tkO 1 (kept (tkO 1 0 N)) (kept (tkL 1 N)))+kept (tkL 1 (kept (tkL 1 N)))).beq N)=true) (h11:((zB N cs).ble 255)=true) (h12:(Nat.ble 1 (zB N cs))=true) (h13:(!xae (Int.ofNat (zA N cs)) (Int.ofNat 2))=true) (h14:(AV.plainL (zU N cs))=true) (h15:(!(AV.bool (kept (zP N cs))).boolOf)=true) :
 ∃ h',zC N cs=some (AV.tuple [AV.agg zV,AV.int IntKind.i64 (Int.ofNat 3)],h')∧[0].map h'.get=[Blk.cells true 5 N cs] :=
 xaa (q:=qNs [15,0,6,0,0,0,0,6,0,8,1,1,0,11,0,6,0,0,0,0,6,0,1,1,20,0,10,0,0,0,0,3,0,0,0,12,0,3,0,5,0,0,0,0,0,0,0,25]) (c:=(cnT::cnT::cnT::cnT::cnT::cnT::cnF::cnF::cnT::cnT::cnT::cnT::cnT::cnT::cnT::Cnd.code (ZLT.lsumS (xbz tys) ((60,1),ppL).snd).fst (ZLT.lsumS (xbz tys) ((60,1),ppL).snd).fst::cnF::cnF::cnT::cnT::cnT::cnT::cnT::cnT::cnT::cnT::cnT::cnT::cnT::cnT::cnT::cnT::cnT::cnT::cnT::[])) (by kernel_rfl) ⟨h0,h0,h1,h2,h3,h0,h4,h5,h6,h0,h0,h1,h2,h7,h0,rfl,h8,h9,h0,h0,h1,h2,h10,h11,h12,h13,h0,h14,h15,h15,h15,h15,h15,h15,h15,trivial⟩
theorem Pa_ffftft (N:Nat) (cs:List AV) (h0:(AV.plainL cs)=true) (h1:(u8L cs)=true) (h2:(cs.length.beq N)=true) (h3:((0+N).ble N)=true) (h4:(xae (Int.ofNat (zA N cs)) (Int.ofNat 1))=false) (h5:(xae (Int.ofNat (zA N cs)) (Int.ofNat 2))=false) (h6:(xae (Int.ofNat (zA N cs)) (Int.ofNat 3))=false) (h7:(xae (Int.ofNat (zA N cs)) (Int.ofNat 5))=true) (h8:((kept (tkO 1 0 N)+kept (tkL 1 N)).ble N)=true) (h9:((kept (tkO 1 (kept (tkO 1 0 N)) (kept (tkL 1 N)))+kept (tkL 1 (kept (tkL 1 N)))).ble N)=true) (h10:(!(AV.bool (kept (kept (kept (true && Nat.ble 1 N) && Nat.ble 1 (kept (tkL 1 N))) && Nat.ble 1 (kept (tkL 1 (kept (tkL 1 N))))))).boolOf)=false) (h11:(xak (Int.ofNat 0) (Int.ofNat (kept (tkL 1 (kept (tkL 1 (kept (tkL 1 N))))))))=true) :
 ∃ h',zC N cs=some (AV.tuple [AV.agg zV,AV.int IntKind.i64 (Int.ofNat 3)],h')∧[0].map h'.get=[Blk.cells true 5 N cs] :=
 xaa (q:=qNs [15,0,6,0,0,0,0,6,0,8,1,1,1,0,0,11,0,6,0,0,0,0,6,0,11,0,6,0,0,0,0,6,0,11,1,1,1,1,5,1,1,1,0,0,0,0,21]) (c:=(cnT::cnT::cnT::cnT::cnT::cnT::cnF::cnF::cnF::cnT::cnT::cnT::cnT::cnT::cnT::cnT::cnT::cnT::cnT::cnT::cnT::cnT::cnT::cnF::cnF::cnF::cnF::cnF::cnF::cnF::cnT::cnT::cnT::cnT::[])) (by kernel_rfl) ⟨h0,h0,h1,h2,h3,h0,h4,h5,h6,h7,h7,h0,h0,h1,h2,h8,h0,h0,h0,h1,h2,h9,h0,h10,h10,h10,h10,h10,h10,h10,h11,h11,h11,h11,trivial⟩
theorem Pa_fffftt (N:Nat) (cs:List AV) (h0:(AV.plainL cs)=true) (h1:(u8L cs)=true) (h2:(cs.length.beq N)=true) (h3:((0+N).ble N)=true) (h4:(xae (Int.ofNat (zA N cs)) (Int.ofNat 1))=false) (h5:(xae (Int.ofNat (zA N cs)) (Int.ofNat 2))=false) (h6:(xae (Int.ofNat (zA N cs)) (Int.ofNat 3))=false) (h7:(xae (Int.ofNat (zA N cs)) (Int.ofNat 5))=false) (h8:(xae (Int.ofNat (zA N cs)) (Int.ofNat 6))=true) (h9:((kept (tkO 1 0 N)+kept (tkL 1 N)).ble N)=true) (h10:((kept (tkO 1 (kept (tkO 1 0 N)) (kept (tkL 1 N)))+kept (tkL 1 (kept (tkL 1 N)))).ble N)=true) (h11:(!(AV.bool (kept (kept (kept (true && Nat.ble 1 N) && Nat.ble 1 (kept (tkL 1 N))) && Nat.ble 1 (kept (tkL 1 (kept (tkL 1 N))))))).boolOf)=true) :
 ∃ h',zC N cs=some (AV.tuple [AV.agg zV,AV.int IntKind.i64 (Int.ofNat 3)],h')∧[0].map h'.get=[Blk.cells true 5 N cs] :=
 xaa (q:=qNs [15,0,6,0,0,0,0,6,0,8,1,1,1,1,0,0,11,0,6,0,0,0,0,6,0,11,0,6,0,0,0,0,6,0,11,0,0,0,0,0,0,0,25]) (c:=(cnT::cnT::cnT::cnT::cnT::cnT::cnF::cnF::cnF::cnF::cnT::cnT::cnT::cnT::cnT::cnT::cnT::cnT::cnT::cnT::cnT::cnT::cnT::cnT::cnT::cnT::cnT::cnT::cnT::cnT::cnT::[])) (by kernel_rfl) ⟨h0,h0,h1,h2,h3,h0,h4,h5,h6,h7,h8,h8,h0,h0,h1,h2,h9,h0,h0,h0,h1,h2,h10,h0,h11,h11,h11,h11,h11,h11,h11,trivial⟩
theorem Pa_ftftfft (N:Nat) (cs:List AV) (h0:(AV.plainL cs)=true) (h1:(u8L cs)=true) (h2:(cs.length.beq N)=true) (h3:((0+N).ble N)=true) (h4:(xae (Int.ofNat (zA N cs)) (Int.ofNat 1))=false) (h5:(xae (Int.ofNat (zA N cs)) (Int.ofNat 2))=true) (h6:((kept (tkO 1 0 N)+kept (tkL 1 N)).ble N)=true) (h7:((zB N cs).beq 0)=false) (h8:(xae (Int.ofNat (zA N cs)) (Int.ofNat 2))=true) (h9:((kept (tkO 1 (kept (tkO 1 0 N)) (kept (tkL 1 N)))+kept (tkL 1 (kept (tkL 1 N)))).beq N)=true) (h10:((zB N cs).ble 255)=true) (h11:(Nat.ble 1 (zB N cs))=true) (h12:(AV.plainL (zU N cs))=true) (h13:(AV.plainL (zD N cs))=true) (h14:(!(AV.bool (kept (zP N cs))).boolOf)=false) (h15:(xak (Int.ofNat 0) (Int.ofNat (kept (zR N cs).length)))=false) (h16:((0+kept (hdN (seg (xap cs) (kept (tkO 1 0 N)) (kept (tkL 1 N))))*1).ble (zB N cs))=true) (h17:(isD (xan (zD N cs) 0 (kept (hdN (seg (xap cs) (kept (tkO 1 0 N)) (kept (tkL 1 N))))*1)))=true) (h18:((xan (zD N cs) 0 (kept (hdN (seg (xap cs) (kept (tkO 1 0 N)) (kept (tkL 1 N))))*1)).length.beq (zB N cs))=true) (h19:((zB N cs).ble 1099511627776)=true) (h20:(AV.plainL (xan (zU N cs) 0 (kept (hdN (seg (xap cs) (kept (tkO 1 0 N)) (kept (tkL 1 N))))*1)))=true) (h21:(!kept (xbi (Int.ofNat (zA N cs)) (Int.ofNat 0) (Int.ofNat 0) (Int.ofNat 0) (Int.ofNat 0) (zB N cs) (zB N cs) (xan (zD N cs) 0 (kept (hdN (seg (xap cs) (kept (tkO 1 0 N)) (kept (tkL 1 N))))*1))))=true) :
 ∃ h',zC N cs=some (AV.tuple [AV.agg zV,AV.int IntKind.i64 (Int.ofNat 3)],h')∧[0].map h'.get=[Blk.cells true 5 N cs] :=
 xaa (q:=qNs [15,0,6,0,0,0,0,6,0,8,1,0,0,11,0,6,0,0,0,0,6,0,1,0,20,0,10,0,0,0,0,3,0,0,0,13,0,3,0,3,0,5,1,1,1,1,5,1,1,1,1,17,1,0,0,0,0,6,0,0,0,0,1,1,0,20]) (c:=(cnT::cnT::cnT::cnT::cnT::cnT::cnF::cnT::cnT::cnT::cnT::cnT::cnT::cnT::cnT::Cnd.code (ZLT.lsumS (xbz tys) ((60,1),ppL).snd).fst (ZLT.lsumS (xbz tys) ((60,1),ppL).snd).fst::cnF::cnT::cnT::cnT::cnT::cnT::cnT::cnT::cnT::cnT::cnT::cnT::cnT::cnF::cnF::cnF::cnF::cnF::cnF::cnF::cnF::cnF::cnT::cnT::cnT::cnT::cnT::cnT::cnT::cnT::cnF::cnF::cnT::[])) (by kernel_rfl) ⟨h0,h0,h1,h2,h3,h0,h4,h5,h5,h0,h0,h1,h2,h6,h0,rfl,h7,h8,h0,h0,h1,h2,h9,h10,h11,h8,h0,h12,h13,h14,h14,h14,h14,h14,h14,h14,h15,h15,h16,h12,h16,h13,h17,h18,h19,h20,h15,h15,h21,trivial⟩
theorem Pa_ftftfff (N:Nat) (cs:List AV) (h0:(AV.plainL cs)=true) (h1:(u8L cs)=true) (h2:(cs.length.beq N)=true) (h3:((0+N).ble N)=true) (h4:(xae (Int.ofNat (zA N cs)) (Int.ofNat 1))=false) (h5:(xae (Int.ofNat (zA N cs)) (Int.ofNat 2))=true) (h6:((kept (tkO 1 0 N)+kept (tkL 1 N)).ble N)=true) (h7:((zB N cs).beq 0)=false) (h8:(xae (Int.ofNat (zA N cs)) (Int.ofNat 2))=true) (h9:((kept (tkO 1 (kept (tkO 1 0 N)) (kept (tkL 1 N)))+kept (tkL 1 (kept (tkL 1 N)))).beq N)=true) (h10:((zB N cs).ble 255)=true) (h11:(Nat.ble 1 (zB N cs))=true) (h12:(AV.plainL (zU N cs))=true) (h13:(AV.plainL (zD N cs))=true) (h14:(!(AV.bool (kept (zP N cs))).boolOf)=false) (h15:(xak (Int.ofNat 0) (Int.ofNat (kept (zR N cs).length)))=false) (h16:((0+kept (hdN (seg (xap cs) (kept (tkO 1 0 N)) (kept (tkL 1 N))))*1).ble (zB N cs))=true) (h17:(isD (xan (zD N cs) 0 (kept (hdN (seg (xap cs) (kept (tkO 1 0 N)) (kept (tkL 1 N))))*1)))=true) (h18:((xan (zD N cs) 0 (kept (hdN (seg (xap cs) (kept (tkO 1 0 N)) (kept (tkL 1 N))))*1)).length.beq (zB N cs))=true) (h19:((zB N cs).ble 1099511627776)=true) (h20:(AV.plainL (xan (zU N cs) 0 (kept (hdN (seg (xap cs) (kept (tkO 1 0 N)) (kept (tkL 1 N))))*1)))=true) (h21:(!kept (xbi (Int.ofNat (zA N cs)) (Int.ofNat 0) (Int.ofNat 0) (Int.ofNat 0) (Int.ofNat 0) (zB N cs) (zB N cs) (xan (zD N cs) 0 (kept (hdN (seg (xap cs) (kept (tkO 1 0 N)) (kept (tkL 1 N))))*1))))=false) :
 ∃ h',zC N cs=some (AV.tuple [AV.agg [AV.int IntKind.u8 (Int.ofNat (zA N cs)),AV.int IntKind.u8 (Int.ofNat 0),AV.int IntKind.u8 (Int.ofNat 0),AV.int IntKind.u32 (Int.ofNat 0),AV.int IntKind.u8 (Int.ofNat 0),AV.slice (some (4,0)) (zB N cs) none,AV.slice (some (5,0)) (zB N cs) none],AV.int IntKind.i64 (Int.ofNat 0)],h')∧[0,4,5].map h'.get=[Blk.cells true 5 N cs,Blk.cells true 27 (zB N cs) (zU N cs),Blk.cells true 36 (zB N cs) (zD N cs)] :=
 xaa (q:=qNs [15,0,6,0,0,0,0,6,0,8,1,0,0,11,0,6,0,0,0,0,6,0,1,0,20,0,10,0,0,0,0,3,0,0,0,13,0,3,0,3,0,5,1,1,1,1,5,1,1,1,1,17,1,0,0,0,0,6,0,0,0,0,1,1,1,35]) (c:=(cnT::cnT::cnT::cnT::cnT::cnT::cnF::cnT::cnT::cnT::cnT::cnT::cnT::cnT::cnT::Cnd.code (ZLT.lsumS (xbz tys) ((60,1),ppL).snd).fst (ZLT.lsumS (xbz tys) ((60,1),ppL).snd).fst::cnF::cnT::cnT::cnT::cnT::cnT::cnT::cnT::cnT::cnT::cnT::cnT::cnT::cnF::cnF::cnF::cnF::cnF::cnF::cnF::cnF::cnF::cnT::cnT::cnT::cnT::cnT::cnT::cnT::cnT::cnF::cnF::cnF::[])) (by kernel_rfl) ⟨h0,h0,h1,h2,h3,h0,h4,h5,h5,h0,h0,h1,h2,h6,h0,rfl,h7,h8,h0,h0,h1,h2,h9,h10,h11,h8,h0,h12,h13,h14,h14,h14,h14,h14,h14,h14,h15,h15,h16,h12,h16,h13,h17,h18,h19,h20,h15,h15,h21,trivial⟩
theorem Pa_ffttfft (N:Nat) (cs:List AV) (h0:(AV.plainL cs)=true) (h1:(u8L cs)=true) (h2:(cs.length.beq N)=true) (h3:((0+N).ble N)=true) (h4:(xae (Int.ofNat (zA N cs)) (Int.ofNat 1))=false) (h5:(xae (Int.ofNat (zA N cs)) (Int.ofNat 2))=false) (h6:(xae (Int.ofNat (zA N cs)) (Int.ofNat 3))=true) (h7:((kept (tkO 1 0 N)+kept (tkL 1 N)).ble N)=true) (h8:((zB N cs).beq 0)=true) (h9:(!(AV.bool (zK N)).boolOf)=false) (h10:(xak (Int.ofNat 0) (Int.ofNat (kept (tkL 1 (kept (tkL 1 N))))))=false) (h11:(!kept (xbi (Int.ofNat (zA N cs)) (Int.ofNat 0) (Int.ofNat 0) (Int.ofNat 0) (Int.ofNat 0) 0 0 []))=true) :
 ∃ h',zC N cs=some (AV.tuple [AV.agg zV,AV.int IntKind.i64 (Int.ofNat 3)],h')∧[0].map h'.get=[Blk.cells true 5 N cs] :=
 xaa (q:=qNs [15,0,6,0,0,0,0,6,0,8,1,1,0,11,0,6,0,0,0,0,6,0,0,20,0,10,0,0,3,0,11,0,5,1,1,1,1,5,1,1,1,1,17,1,10,1,1,0,20]) (c:=(cnT::cnT::cnT::cnT::cnT::cnT::cnF::cnF::cnT::cnT::cnT::cnT::cnT::cnT::cnT::Cnd.code (ZLT.lsumS (xbz tys) ((60,1),ppL).snd).fst (ZLT.lsumS (xbz tys) ((60,1),ppL).snd).fst::cnT::cnT::cnT::cnT::cnT::cnT::cnF::cnF::cnF::cnF::cnF::cnF::cnF::cnF::cnF::cnF::cnF::cnT::[])) (by kernel_rfl) ⟨h0,h0,h1,h2,h3,h0,h4,h5,h6,h0,h0,h1,h2,h7,h0,rfl,h8,h0,h0,h8,h0,h0,h9,h9,h9,h9,h9,h9,h9,h10,h10,h10,h10,h11,trivial⟩
theorem Pa_ffttfff (N:Nat) (cs:List AV) (h0:(AV.plainL cs)=true) (h1:(u8L cs)=true) (h2:(cs.length.beq N)=true) (h3:((0+N).ble N)=true) (h4:(xae (Int.ofNat (zA N cs)) (Int.ofNat 1))=false) (h5:(xae (Int.ofNat (zA N cs)) (Int.ofNat 2))=false) (h6:(xae (Int.ofNat (zA N cs)) (Int.ofNat 3))=true) (h7:((kept (tkO 1 0 N)+kept (tkL 1 N)).ble N)=true) (h8:((zB N cs).beq 0)=true) (h9:(!(AV.bool (zK N)).boolOf)=false) (h10:(xak (Int.ofNat 0) (Int.ofNat (kept (tkL 1 (kept (tkL 1 N))))))=false) (h11:(!kept (xbi (Int.ofNat (zA N cs)) (Int.ofNat 0) (Int.ofNat 0) (Int.ofNat 0) (Int.ofNat 0) 0 0 []))=false) :
 ∃ h',zC N cs=some (AV.tuple [AV.agg [AV.int IntKind.u8 (Int.ofNat (zA N cs)),AV.int IntKind.u8 (Int.ofNat 0),AV.int IntKind.u8 (Int.ofNat 0),AV.int IntKind.u32 (Int.ofNat 0),AV.int IntKind.u8 (Int.ofNat 0),AV.slice none 0 (some 0),AV.slice none 0 (some 0)],AV.int IntKind.i64 (Int.ofNat 0)],h')∧[0].map h'.get=[Blk.cells true 5 N cs] :=
 xaa (q:=qNs [15,0,6,0,0,0,0,6,0,8,1,1,0,11,0,6,0,0,0,0,6,0,0,20,0,10,0,0,3,0,11,0,5,1,1,1,1,5,1,1,1,1,17,1,10,1,1,1,35]) (c:=(cnT::cnT::cnT::cnT::cnT::cnT::cnF::cnF::cnT::cnT::cnT::cnT::cnT::cnT::cnT::Cnd.code (ZLT.lsumS (xbz tys) ((60,1),ppL).snd).fst (ZLT.lsumS (xbz tys) ((60,1),ppL).snd).fst::cnT::cnT::cnT::cnT::cnT::cnT::cnF::cnF::cnF::cnF::cnF::cnF::cnF::cnF::cnF::cnF::cnF::cnF::[])) (by kernel_rfl) ⟨h0,h0,h1,h2,h3,h0,h4,h5,h6,h0,h0,h1,h2,h7,h0,rfl,h8,h0,h0,h8,h0,h0,h9,h9,h9,h9,h9,h9,h9,h10,h10,h10,h10,h11,trivial⟩
theorem Pa_fftffft (N:Nat) (cs:List AV) (h0:(AV.plainL cs)=true) (h1:(u8L cs)=true) (h2:(cs.length.beq N)=true) (h3:((0+N).ble N)=true) (h4:(xae (Int.ofNat (zA N cs)) (Int.ofNat 1))=false) (h5:(xae (Int.ofNat (zA N cs)) (Int.ofNat 2))=false) (h6:(xae (Int.ofNat (zA N cs)) (Int.ofNat 3))=true) (h7:((kept (tkO 1 0 N)+kept (tkL 1 N)).ble N)=true) (h8:((zB N cs).beq 0)=false) (h9:(xae (Int.ofNat (zA N cs)) (Int.ofNat 2))=false) (h10:((kept (tkO 1 (kept (tkO 1 0 N)) (kept (tkL 1 N)))+kept (tkL 1 (kept (tkL 1 N)))).beq N)=true) (h11:((zB N cs).ble 255)=true) (h12:(Nat.ble 1 (zB N cs))=true) (h13:(!xae (Int.ofNat (zA N cs)) (Int.ofNat 2))=true) (h14:(AV.plainL (zU N cs))=true) (h15:(!(AV.bool (kept (zP N cs))).boolOf)=false) (h16:(xak (Int.ofNat 0) (Int.ofNat (kept (zR N cs).length)))=true) :
 ∃ h',zC N cs=some (AV.tuple [AV.agg zV,AV.int IntKind.i64 (Int.ofNat 3)],h')∧[0].map h'.get=[Blk.cells true 5 N cs] :=
 xaa (q:=qNs [15,0,6,0,0,0,0,6,0,8,1,1,0,11,0,6,0,0,0,0,6,0,1,1,20,0,10,0,0,0,0,3,0,0,0,12,0,3,0,5,1,1,1,1,5,1,1,1,0,0,0,0,21]) (c:=(cnT::cnT::cnT::cnT::cnT::cnT::cnF::cnF::cnT::cnT::cnT::cnT::cnT::cnT::cnT::Cnd.code (ZLT.lsumS (xbz tys) ((60,1),ppL).snd).fst (ZLT.lsumS (xbz tys) ((60,1),ppL).snd).fst::cnF::cnF::cnT::cnT::cnT::cnT::cnT::cnT::cnT::cnT::cnT::cnT::cnF::cnF::cnF::cnF::cnF::cnF::cnF::cnT::cnT::cnT::cnT::[])) (by kernel_rfl) ⟨h0,h0,h1,h2,h3,h0,h4,h5,h6,h0,h0,h1,h2,h7,h0,rfl,h8,h9,h0,h0,h1,h2,h10,h11,h12,h13,h0,h14,h15,h15,h15,h15,h15,h15,h15,h16,h16,h16,h16,trivial⟩
theorem Pa_ffftfft (N:Nat) (cs:List AV) (h0:(AV.plainL cs)=true) (h1:(u8L cs)=true) (h2:(cs.length.beq N)=true) (h3:((0+N).ble N)=true) (h4:(xae (Int.ofNat (zA N cs)) (Int.ofNat 1))=false) (h5:(xae (Int.ofNat (zA N cs)) (Int.ofNat 2))=false) (h6:(xae (Int.ofNat (zA N cs)) (Int.ofNat 3))=false) (h7:(xae (Int.ofNat (zA N cs)) (Int.ofNat 5))=true) (h8:((kept (tkO 1 0 N)+kept (tkL 1 N)).ble N)=true) (h9:((kept (tkO 1 (kept (tkO 1 0 N)) (kept (tkL 1 N)))+kept (tkL 1 (kept (tkL 1 N)))).ble N)=true) (h10:(!(AV.bool (kept (kept (kept (true && Nat.ble 1 N) && Nat.ble 1 (kept (tkL 1 N))) && Nat.ble 1 (kept (tkL 1 (kept (tkL 1 N))))))).boolOf)=false) (h11:(xak (Int.ofNat 0) (Int.ofNat (kept (tkL 1 (kept (tkL 1 (kept (tkL 1 N))))))))=false) (h12:(!kept (xbi (Int.ofNat (zA N cs)) (AV.int IntKind.u8 (Int.ofNat (zB N cs))).intOf (AV.int IntKind.u8 (Int.ofNat (zH N cs))).intOf (Int.ofNat 0) (Int.ofNat 0) 0 0 []))=true) :
 ∃ h',zC N cs=some (AV.tuple [AV.agg zV,AV.int IntKind.i64 (Int.ofNat 3)],h')∧[0].map h'.get=[Blk.cells true 5 N cs] :=
 xaa (q:=qNs [15,0,6,0,0,0,0,6,0,8,1,1,1,0,0,11,0,6,0,0,0,0,6,0,11,0,6,0,0,0,0,6,0,11,1,1,1,1,5,1,1,1,1,17,1,10,1,1,0,20]) (c:=(cnT::cnT::cnT::cnT::cnT::cnT::cnF::cnF::cnF::cnT::cnT::cnT::cnT::cnT::cnT::cnT::cnT::cnT::cnT::cnT::cnT::cnT::cnT::cnF::cnF::cnF::cnF::cnF::cnF::cnF::cnF::cnF::cnF::cnF::cnT::[])) (by kernel_rfl) ⟨h0,h0,h1,h2,h3,h0,h4,h5,h6,h7,h7,h0,h0,h1,h2,h8,h0,h0,h0,h1,h2,h9,h0,h10,h10,h10,h10,h10,h10,h10,h11,h11,h11,h11,h12,trivial⟩
theorem Pa_ffftfff (N:Nat) (cs:List AV) (h0:(AV.plainL cs)=true) (h1:(u8L cs)=true) (h2:(cs.length.beq N)=true) (h3:((0+N).ble N)=true) (h4:(xae (Int.ofNat (zA N cs)) (Int.ofNat 1))=false) (h5:(xae (Int.ofNat (zA N cs)) (Int.ofNat 2))=false) (h6:(xae (Int.ofNat (zA N cs)) (Int.ofNat 3))=false) (h7:(xae (Int.ofNat (zA N cs)) (Int.ofNat 5))=true) (h8:((kept (tkO 1 0 N)+kept (tkL 1 N)).ble N)=true) (h9:((kept (tkO 1 (kept (tkO 1 0 N)) (kept (tkL 1 N)))+kept (tkL 1 (kept (tkL 1 N)))).ble N)=true) (h10:(!(AV.bool (kept (kept (kept (true && Nat.ble 1 N) && Nat.ble 1 (kept (tkL 1 N))) && Nat.ble 1 (kept (tkL 1 (kept (tkL 1 N))))))).boolOf)=false) (h11:(xak (Int.ofNat 0) (Int.ofNat (kept (tkL 1 (kept (tkL 1 (kept (tkL 1 N))))))))=false) (h12:(!kept (xbi (Int.ofNat (zA N cs)) (AV.int IntKind.u8 (Int.ofNat (zB N cs))).intOf (AV.int IntKind.u8 (Int.ofNat (zH N cs))).intOf (Int.ofNat 0) (Int.ofNat 0) 0 0 []))=false) :
 ∃ h',zC N cs=some (AV.tuple [AV.agg [AV.int IntKind.u8 (Int.ofNat (zA N cs)),AV.int IntKind.u8 (AV.int IntKind.u8 (AV.int IntKind.u8 (Int.ofNat (zB N cs))).intOf).intOf,AV.int IntKind.u8 (AV.int IntKind.u8 (AV.int IntKind.u8 (Int.ofNat (zH N cs))).intOf).intOf,AV.int IntKind.u32 (Int.ofNat 0),AV.int IntKind.u8 (Int.ofNat 0),AV.slice none 0 (some 0),AV.slice none 0 (some 0)],AV.int IntKind.i64 (Int.ofNat 0)],h')∧[0].map h'.get=[Blk.cells true 5 N cs] :=
 xaa (q:=qNs [15,0,6,0,0,0,0,6,0,8,1,1,1,0,0,11,0,6,0,0,0,0,6,0,11,0,6,0,0,0,0,6,0,11,1,1,1,1,5,1,1,1,1,17,1,10,1,1,1,35]) (c:=(cnT::cnT::cnT::cnT::cnT::cnT::cnF::cnF::cnF::cnT::cnT::cnT::cnT::cnT::cnT::cnT::cnT::cnT::cnT::cnT::cnT::cnT::cnT::cnF::cnF::cnF::cnF::cnF::cnF::cnF::cnF::cnF::cnF::cnF::cnF::[])) (by kernel_rfl) ⟨h0,h0,h1,h2,h3,h0,h4,h5,h6,h7,h7,h0,h0,h1,h2,h8,h0,h0,h0,h1,h2,h9,h0,h10,h10,h10,h10,h10,h10,h10,h11,h11,h11,h11,h12,trivial⟩
theorem Pa_fffftft (N:Nat) (cs:List AV) (h0:(AV.plainL cs)=true) (h1:(u8L cs)=true) (h2:(cs.length.beq N)=true) (h3:((0+N).ble N)=true) (h4:(xae (Int.ofNat (zA N cs)) (Int.ofNat 1))=false) (h5:(xae (Int.ofNat (zA N cs)) (Int.ofNat 2))=false) (h6:(xae (Int.ofNat (zA N cs)) (Int.ofNat 3))=false) (h7:(xae (Int.ofNat (zA N cs)) (Int.ofNat 5))=false) (h8:(xae (Int.ofNat (zA N cs)) (Int.ofNat 6))=true) (h9:((kept (tkO 1 0 N)+kept (tkL 1 N)).ble N)=true) (h10:((kept (tkO 1 (kept (tkO 1 0 N)) (kept (tkL 1 N)))+kept (tkL 1 (kept (tkL 1 N)))).ble N)=true) (h11:(!(AV.bool (kept (kept (kept (true && Nat.ble 1 N) && Nat.ble 1 (kept (tkL 1 N))) && Nat.ble 1 (kept (tkL 1 (kept (tkL 1 N))))))).boolOf)=false) (h12:(xak (Int.ofNat 0) (Int.ofNat (kept (tkL 1 (kept (tkL 1 (kept (tkL 1 N))))))))=true) :
 ∃ h',zC N cs=some (AV.tuple [AV.agg zV,AV.int IntKind.i64 (Int.ofNat 3)],h')∧[0].map h'.get=[Blk.cells true 5 N cs] :=
 xaa (q:=qNs [15,0,6,0,0,0,0,6,0,8,1,1,1,1,0,0,11,0,6,0,0,0,0,6,0,11,0,6,0,0,0,0,6,0,11,1,1,1,1,5,1,1,1,0,0,0,0,21]) (c:=(cnT::cnT::cnT::cnT::cnT::cnT::cnF::cnF::cnF::cnF::cnT::cnT::cnT::cnT::cnT::cnT::cnT::cnT::cnT::cnT::cnT::cnT::cnT::cnT::cnF::cnF::cnF::cnF::cnF::cnF::cnF::cnT::cnT::cnT::cnT::[])) (by kernel_rfl) ⟨h0,h0,h1,h2,h3,h0,h4,h5,h6,h7,h8,h8,h0,h0,h1,h2,h9,h0,h0,h0,h1,h2,h10,h0,h11,h11,h11,h11,h11,h11,h11,h12,h12,h12,h12,trivial⟩
theorem Pa_ffffftt (N:Nat) (cs:List AV) (h0:(AV.plainL cs)=true) (h1:(u8L cs)=true) (h2:(cs.length.beq N)=true) (h3:((0+N).ble N)=true) (h4:(xae (Int.ofNat (zA N cs)) (Int.ofNat 1))=false) (h5:(xae (Int.ofNat (zA N cs)) (Int.ofNat 2))=false) (h6:(xae (Int.ofNat (zA N cs)) (Int.ofNat 3))=false) (h7:(xae (Int.ofNat (zA N cs)) (Int.ofNat 5))=false) (h8:(xae (Int.ofNat (zA N cs)) (Int.ofNat 6))=false) (h9:(xae (Int.ofNat (zA N cs)) (Int.ofNat 7))=true) (h10:((kept (tkO 1 0 N)+kept (tkL 1 N)).ble N)=true) (h11:((kept (tkO 1 (kept (tkO 1 0 N)) (kept (tkL 1 N)))+kept (tkL 1 (kept (tkL 1 N)))).ble N)=true) (h12:(!(AV.bool (kept (kept (kept (true && Nat.ble 1 N) && Nat.ble 1 (kept (tkL 1 N))) && Nat.ble 1 (kept (tkL 1 (kept (tkL 1 N))))))).boolOf)=true) :
 ∃ h',zC N cs=some (AV.tuple [AV.agg zV,AV.int IntKind.i64 (Int.ofNat 3)],h')∧[0].map h'.get=[Blk.cells true 5 N cs] :=
 xaa (q:=qNs [15,0,6,0,0,0,0,6,0,8,1,1,1,1,1,0,11,0,6,0,0,0,0,6,0,11,0,6,0,0,0,0,6,0,11,0,0,0,0,0,0,0,25]) (c:=(cnT::cnT::cnT::cnT::cnT::cnT::cnF::cnF::cnF::cnF::cnF::cnT::cnT::cnT::cnT::cnT::cnT::cnT::cnT::cnT::cnT::cnT::cnT::cnT::cnT::cnT::cnT::cnT::cnT::cnT::cnT::[])) (by kernel_rfl) ⟨h0,h0,h1,h2,h3,h0,h4,h5,h6,h7,h8,h9,h0,h0,h1,h2,h10,h0,h0,h0,h1,h2,h11,h0,h12,h12,h12,h12,h12,h12,h12,trivial⟩
theorem Pa_fffffft (N:Nat) (cs:List AV) (h0:(AV.plainL cs)=true) (h1:(u8L cs)=true) (h2:(cs.length.beq N)=true) (h3:((0+N).ble N)=true) (h4:(xae (Int.ofNat (zA N cs)) (Int.ofNat 1))=false) (h5:(xae (Int.ofNat (zA N cs)) (Int.ofNat 2))=false) (h6:(xae (Int.ofNat (zA N cs)) (Int.ofNat 3))=false) (h7:(xae (Int.ofNat (zA N cs)) (Int.ofNat 5))=false) (h8:(xae (Int.ofNat (zA N cs)) (Int.ofNat 6))=false) (h9:(xae (Int.ofNat (zA N cs)) (Int.ofNat 7))=false) (h10:(!(AV.bool (kept (true && Nat.ble 1 N))).boolOf)=true) :
 ∃ h',zC N cs=some (AV.tuple [AV.agg zV,AV.int IntKind.i64 (Int.ofNat 3)],h')∧[0].map h'.get=[Blk.cells true 5 N cs] :=
 xaa (q:=qNs [15,0,6,0,0,0,0,6,0,8,1,1,1,1,1,1,5,0,0,0,0,0,0,0,25]) (c:=(cnT::cnT::cnT::cnT::cnT::cnT::cnF::cnF::cnF::cnF::cnF::cnF::cnT::cnT::cnT::cnT::cnT::cnT::cnT::[])) (by kernel_rfl) ⟨h0,h0,h1,h2,h3,h0,h4,h5,h6,h7,h8,h9,h10,h10,h10,h10,h10,h10,h10,trivial⟩
theorem Pa_fftfffft (N:Nat) (cs:List AV) (h0:(AV.plainL cs)=true) (h1:(u8L cs)=true) (h2:(cs.length.beq N)=true) (h3:((0+N).ble N)=true) (h4:(xae (Int.ofNat (zA N cs)) (Int.ofNat 1))=false) (h5:(xae (Int.ofNat (zA N cs)) (Int.ofNat 2))=false) (h6:(xae (Int.ofNat (zA N cs)) (Int.ofNat 3))=true) (h7:((kept (tkO 1 0 N)+kept (tkL 1 N)).ble N)=true) (h8:((zB N cs).beq 0)=false) (h9:(xae (Int.ofNat (zA N cs)) (Int.ofNat 2))=false) (h10:((kept (tkO 1 (kept (tkO 1 0 N)) (kept (tkL 1 N)))+kept (tkL 1 (kept (tkL 1 N)))).beq N)=true) (h11:((zB N cs).ble 255)=true) (h12:(Nat.ble 1 (zB N cs))=true) (h13:(!xae (Int.ofNat (zA N cs)) (Int.ofNat 2))=true) (h14:(AV.plainL (zU N cs))=true) (h15:(!(AV.bool (kept (zP N cs))).boolOf)=false) (h16:(xak (Int.ofNat 0) (Int.ofNat (kept (zR N cs).length)))=false) (h17:((0+kept (hdN (seg (xap cs) (kept (tkO 1 0 N)) (kept (tkL 1 N))))*1).ble (zB N cs))=true) (h18:(AV.plainL (xan (zU N cs) 0 (kept (hdN (seg (xap cs) (kept (tkO 1 0 N)) (kept (tkL 1 N))))*1)))=true) (h19:(!kept (xbi (Int.ofNat (zA N cs)) (Int.ofNat 0) (Int.ofNat 0) (Int.ofNat 0) (Int.ofNat 0) (zB N cs) 0 []))=true) :
 ∃ h',zC N cs=some (AV.tuple [AV.agg zV,AV.int IntKind.i64 (Int.ofNat 3)],h')∧[0].map h'.get=[Blk.cells true 5 N cs] :=
 xaa (q:=qNs [15,0,6,0,0,0,0,6,0,8,1,1,0,11,0,6,0,0,0,0,6,0,1,1,20,0,10,0,0,0,0,3,0,0,0,12,0,3,0,5,1,1,1,1,5,1,1,1,1,17,1,0,0,9,0,1,1,0,20]) (c:=(cnT::cnT::cnT::cnT::cnT::cnT::cnF::cnF::cnT::cnT::cnT::cnT::cnT::cnT::cnT::Cnd.code (ZLT.lsumS (xbz tys) ((60,1),ppL).snd).fst (ZLT.lsumS (xbz tys) ((60,1),ppL).snd).fst::cnF::cnF::cnT::cnT::cnT::cnT::cnT::cnT::cnT::cnT::cnT::cnT::cnF::cnF::cnF::cnF::cnF::cnF::cnF::cnF::cnF::cnT::cnT::cnT::cnF::cnF::cnT::[])) (by kernel_rfl) ⟨h0,h0,h1,h2,h3,h0,h4,h5,h6,h0,h0,h1,h2,h7,h0,rfl,h8,h9,h0,h0,h1,h2,h10,h11,h12,h13,h0,h14,h15,h15,h15,h15,h15,h15,h15,h16,h16,h17,h14,h18,h16,h16,h19,trivial⟩
theorem Pa_fftfffff (N:Nat) (cs:List AV) (h0:(AV.plainL cs)=true) (h1:(u8L cs)=true) (h2:(cs.length.beq N)=true) (h3:((0+N).ble N)=true) (h4:(xae (Int.ofNat (zA N cs)) (Int.ofNat 1))=false) (h5:(xae (Int.ofNat (zA N cs)) (Int.ofNat 2))=false) (h6:(xae (Int.ofNat (zA N cs)) (Int.ofNat 3))=true) (h7:((kept (tkO 1 0 N)+kept (tkL 1 N)).ble N)=true) (h8:((zB N cs).beq 0)=false) (h9:(xae (Int.ofNat (zA N cs)) (Int.ofNat 2))=false) (h10:((kept (tkO 1 (kept (tkO 1 0 N)) (kept (tkL 1 N)))+kept (tkL 1 (kept (tkL 1 N)))).beq N)=true) (h11:((zB N cs).ble 255)=true) (h12:(Nat.ble 1 (zB N cs))=true) (h13:(!xae (Int.ofNat (zA N cs)) (Int.ofNat 2))=true) (h14:(AV.plainL (zU N cs))=true) (h15:(!(AV.bool (kept (zP N cs))).boolOf)=false) (h16:(xak (Int.ofNat 0) (Int.ofNat (kept (zR N cs).length)))=false) (h17:((0+kept (hdN (seg (xap cs) (kept (tkO 1 0 N)) (kept (tkL 1 N))))*1).ble (zB N cs))=true) (h18:(AV.plainL (xan (zU N cs) 0 (kept (hdN (seg (xap cs) (kept (tkO 1 0 N)) (kept (tkL 1 N))))*1)))=true) (h19:(!kept (xbi (Int.ofNat (zA N cs)) (Int.ofNat 0) (Int.ofNat 0) (Int.ofNat 0) (Int.ofNat 0) (zB N cs) 0 []))=false) :
 ∃ h',zC N cs=some (AV.tuple [AV.agg [AV.int IntKind.u8 (Int.ofNat (zA N cs)),AV.int IntKind.u8 (Int.ofNat 0),AV.int IntKind.u8 (Int.ofNat 0),AV.int IntKind.u32 (Int.ofNat 0),AV.int IntKind.u8 (Int.ofNat 0),AV.slice (some (4,0)) (zB N cs) none,AV.slice none 0 (some 0)],AV.int IntKind.i64 (Int.ofNat 0)],h')∧[0,4].map h'.get=[Blk.cells true 5 N cs,Blk.cells true 27 (zB N cs) (zU N cs)] :=
 xaa (q:=qNs [15,0,6,0,0,0,0,6,0,8,1,1,0,11,0,6,0,0,0,0,6,0,1,1,20,0,10,0,0,0,0,3,0,0,0,12,0,3,0,5,1,1,1,1,5,1,1,1,1,17,1,0,0,9,0,1,1,1,35]) (c:=(cnT::cnT::cnT::cnT::cnT::cnT::cnF::cnF::cnT::cnT::cnT::cnT::cnT::cnT::cnT::Cnd.code (ZLT.lsumS (xbz tys) ((60,1),ppL).snd).fst (ZLT.lsumS (xbz tys) ((60,1),ppL).snd).fst::cnF::cnF::cnT::cnT::cnT::cnT::cnT::cnT::cnT::cnT::cnT::cnT::cnF::cnF::cnF::cnF::cnF::cnF::cnF::cnF::cnF::cnT::cnT::cnT::cnF::cnF::cnF::[])) (by kernel_rfl) ⟨h0,h0,h1,h2,h3,h0,h4,h5,h6,h0,h0,h1,h2,h7,h0,rfl,h8,h9,h0,h0,h1,h2,h10,h11,h12,h13,h0,h14,h15,h15,h15,h15,h15,h15,h15,h16,h16,h17,h14,h18,h16,h16,h19,trivial⟩
theorem Pa_fffftfft (N:Nat) (cs:List AV) (h0:(AV.plainL cs)=true) (h1:(u8L cs)=true) (h2:(cs.length.beq N)=true) (h3:((0+N).ble N)=true) (h4:(xae (Int.ofNat (zA N cs)) (Int.ofNat 1))=false) (h5:(xae (Int.ofNat (zA N cs)) (Int.ofNat 2))=false) (h6:(xae (Int.ofNat (zA N cs)) (Int.ofNat 3))=false) (h7:(xae (Int.ofNat (zA N cs)) (Int.ofNat 5))=false) (h8:(xae (Int.ofNat (zA N cs)) (Int.ofNat 6))=true) (h9:((kept (tkO 1 0 N)+kept (tkL 1 N)).ble N)=true) (h10:((kept (tkO 1 (kept (tkO 1 0 N)) (kept (tkL 1 N)))+kept (tkL 1 (kept (tkL 1 N)))).ble N)=true) (h11:(!(AV.bool (kept (kept (kept (true && Nat.ble 1 N) && Nat.ble 1 (kept (tkL 1 N))) && Nat.ble 1 (kept (tkL 1 (kept (tkL 1 N))))))).boolOf)=false) (h12:(xak (Int.ofNat 0) (Int.ofNat (kept (tkL 1 (kept (tkL 1 (kept (tkL 1 N))))))))=false) (h13:(!kept (xbi (Int.ofNat (zA N cs)) (AV.int IntKind.u8 (Int.ofNat (zB N cs))).intOf (AV.int IntKind.u8 (Int.ofNat (zH N cs))).intOf (Int.ofNat 0) (Int.ofNat 0) 0 0 []))=true) :
 ∃ h',zC N cs=some (AV.tuple [AV.agg zV,AV.int IntKind.i64 (Int.ofNat 3)],h')∧[0].map h'.get=[Blk.cells true 5 N cs] :=
 xaa (q:=qNs [15,0,6,0,0,0,0,6,0,8,1,1,1,1,0,0,11,0,6,0,0,0,0,6,0,11,0,6,0,0,0,0,6,0,11,1,1,1,1,5,1,1,1,1,17,1,10,1,1,0,20]) (c:=(cnT::cnT::cnT::cnT::cnT::cnT::cnF::cnF::cnF::cnF::cnT::cnT::cnT::cnT::cnT::cnT::cnT::cnT::cnT::cnT::cnT::cnT::cnT::cnT::cnF::cnF::cnF::cnF::cnF::cnF::cnF::cnF::cnF::cnF::cnF::cnT::[])) (by kernel_rfl) ⟨h0,h0,h1,h2,h3,h0,h4,h5,h6,h7,h8,h8,h0,h0,h1,h2,h9,h0,h0,h0,h1,h2,h10,h0,h11,h11,h11,h11,h11,h11,h11,h12,h12,h12,h12,h13,trivial⟩
theorem Pa_fffftfff (N:Nat) (cs:List AV) (h0:(AV.plainL cs)=true) (h1:(u8L cs)=true) (h2:(cs.length.beq N)=true) (h3:((0+N).ble N)=true) (h4:(xae (Int.ofNat (zA N cs)) (Int.ofNat 1))=false) (h5:(xae (Int.ofNat (zA N cs)) (Int.ofNat 2))=false) (h6:(xae (Int.ofNat (zA N cs)) (Int.ofNat 3))=false) (h7:(xae (Int.ofNat (zA N cs)) (Int.ofNat 5))=false) (h8:(xae (Int.ofNat (zA N cs)) (Int.ofNat 6))=true) (h9:((kept (tkO 1 0 N)+kept (tkL 1 N)).ble N)=true) (h10:((kept (tkO 1 (kept (tkO 1 0 N)) (kept (tkL 1 N)))+kept (tkL 1 (kept (tkL 1 N)))).ble N)=true) (h11:(!(AV.bool (kept (kept (kept (true && Nat.ble 1 N) && Nat.ble 1 (kept (tkL 1 N))) && Nat.ble 1 (kept (tkL 1 (kept (tkL 1 N))))))).boolOf)=false) (h12:(xak (Int.ofNat 0) (Int.ofNat (kept (tkL 1 (kept (tkL 1 (kept (tkL 1 N))))))))=false) (h13:(!kept (xbi (Int.ofNat (zA N cs)) (AV.int IntKind.u8 (Int.ofNat (zB N cs))).intOf (AV.int IntKind.u8 (Int.ofNat (zH N cs))).intOf (Int.ofNat 0) (Int.ofNat 0) 0 0 []))=false) :
 ∃ h',zC N cs=some (AV.tuple [AV.agg [AV.int IntKind.u8 (Int.ofNat (zA N cs)),AV.int IntKind.u8 (AV.int IntKind.u8 (AV.int IntKind.u8 (Int.ofNat (zB N cs))).intOf).intOf,AV.int IntKind.u8 (AV.int IntKind.u8 (AV.int IntKind.u8 (Int.ofNat (zH N cs))).intOf).intOf,AV.int IntKind.u32 (Int.ofNat 0),AV.int IntKind.u8 (Int.ofNat 0),AV.slice none 0 (some 0),AV.slice none 0 (some 0)],AV.int IntKind.i64 (Int.ofNat 0)],h')∧[0].map h'.get=[Blk.cells true 5 N cs] :=
 xaa (q:=qNs [15,0,6,0,0,0,0,6,0,8,1,1,1,1,0,0,11,0,6,0,0,0,0,6,0,11,0,6,0,0,0,0,6,0,11,1,1,1,1,5,1,1,1,1,17,1,10,1,1,1,35]) (c:=(cnT::cnT::cnT::cnT::cnT::cnT::cnF::cnF::cnF::cnF::cnT::cnT::cnT::cnT::cnT::cnT::cnT::cnT::cnT::cnT::cnT::cnT::cnT::cnT::cnF::cnF::cnF::cnF::cnF::cnF::cnF::cnF::cnF::cnF::cnF::cnF::[])) (by kernel_rfl) ⟨h0,h0,h1,h2,h3,h0,h4,h5,h6,h7,h8,h8,h0,h0,h1,h2,h9,h0,h0,h0,h1,h2,h10,h0,h11,h11,h11,h11,h11,h11,h11,h12,h12,h12,h12,h13,trivial⟩
theorem Pa_ffffftft (N:Nat) (cs:List AV) (h0:(AV.plainL cs)=true) (h1:(u8L cs)=true) (h2:(cs.length.beq N)=true) (h3:((0+N).ble N)=true) (h4:(xae (Int.ofNat (zA N cs)) (Int.ofNat 1))=false) (h5:(xae (Int.ofNat (zA N cs)) (Int.ofNat 2))=false) (h6:(xae (Int.ofNat (zA N cs)) (Int.ofNat 3))=false) (h7:(xae (Int.ofNat (zA N cs)) (Int.ofNat 5))=false) (h8:(xae (Int.ofNat (zA N cs)) (Int.ofNat 6))=false) (h9:(xae (Int.ofNat (zA N cs)) (Int.ofNat 7))=true) (h10:((kept (tkO 1 0 N)+kept (tkL 1 N)).ble N)=true) (h11:((kept (tkO 1 (kept (tkO 1 0 N)) (kept (tkL 1 N)))+kept (tkL 1 (kept (tkL 1 N)))).ble N)=true) (h12:(!(AV.bool (kept (kept (kept (true && Nat.ble 1 N) && Nat.ble 1 (kept (tkL 1 N))) && Nat.ble 1 (kept (tkL 1 (kept (tkL 1 N))))))).boolOf)=false) (h13:(xak (Int.ofNat 0) (Int.ofNat (kept (tkL 1 (kept (tkL 1 (kept (tkL 1 N))))))))=true) :
 ∃ h',zC N cs=some (AV.tuple [AV.agg zV,AV.int IntKind.i64 (Int.ofNat 3)],h')∧[0].map h'.get=[Blk.cells true 5 N cs] :=
 xaa (q:=qNs [15,0,6,0,0,0,0,6,0,8,1,1,1,1,1,0,11,0,6,0,0,0,0,6,0,11,0,6,0,0,0,0,6,0,11,1,1,1,1,5,1,1,1,0,0,0,0,21]) (c:=(cnT::cnT::cnT::cnT::cnT::cnT::cnF::cnF::cnF::cnF::cnF::cnT::cnT::cnT::cnT::cnT::cnT::cnT::cnT::cnT::cnT::cnT::cnT::cnT::cnF::cnF::cnF::cnF::cnF::cnF::cnF::cnT::cnT::cnT::cnT::[])) (by kernel_rfl) ⟨h0,h0,h1,h2,h3,h0,h4,h5,h6,h7,h8,h9,h0,h0,h1,h2,h10,h0,h0,h0,h1,h2,h11,h0,h12,h12,h12,h12,h12,h12,h12,h13,h13,h13,h13,trivial⟩
theorem Pa_ffffffft (N:Nat) (cs:List AV) (h0:(AV.plainL cs)=true) (h1:(u8L cs)=true) (h2:(cs.length.beq N)=true) (h3:((0+N).ble N)=true) (h4:(xae (Int.ofNat (zA N cs)) (Int.ofNat 1))=false) (h5:(xae (Int.ofNat (zA N cs)) (Int.ofNat 2))=false) (h6:(xae (Int.ofNat (zA N cs)) (Int.ofNat 3))=false) (h7:(xae (Int.ofNat (zA N cs)) (Int.ofNat 5))=false) (h8:(xae (Int.ofNat (zA N cs)) (Int.ofNat 6))=false) (h9:(xae (Int.ofNat (zA N cs)) (Int.ofNat 7))=false) (h10:(!(AV.bool (kept (true && Nat.ble 1 N))).boolOf)=false) (h11:(xak (Int.ofNat 0) (Int.ofNat (kept (tkL 1 N))))=true) :
 ∃ h',zC N cs=some (AV.tuple [AV.agg zV,AV.int IntKind.i64 (Int.ofNat 3)],h')∧[0].map h'.get=[Blk.cells true 5 N cs] :=
 xaa (q:=qNs [15,0,6,0,0,0,0,6,0,8,1,1,1,1,1,1,5,1,1,1,1,5,1,1,1,0,0,0,0,21]) (c:=(cnT::cnT::cnT::cnT::cnT::cnT::cnF::cnF::cnF::cnF::cnF::cnF::cnF::cnF::cnF::cnF::cnF::cnF::cnF::cnT::cnT::cnT::cnT::[])) (by kernel_rfl) ⟨h0,h0,h1,h2,h3,h0,h4,h5,h6,h7,h8,h9,h10,h10,h10,h10,h10,h10,h10,h11,h11,h11,h11,trivial⟩
theorem Pa_ffffftfft (N:Nat) (cs:List AV) (h0:(AV.plainL cs)=true) (h1:(u8L cs)=true) (h2:(cs.length.beq N)=true) (h3:((0+N).ble N)=true) (h4:(xae (Int.ofNat (zA N cs)) (Int.ofNat 1))=false) (h5:(xae (Int.ofNat (zA N cs)) (Int.ofNat 2))=false) (h6:(xae (Int.ofNat (zA N cs)) (Int.ofNat 3))=false) (h7:(xae (Int.ofNat (zA N cs)) (Int.ofNat 5))=false) (h8:(xae (Int.ofNat (zA N cs)) (Int.ofNat 6))=false) (h9:(xae (Int.ofNat (zA N cs)) (Int.ofNat 7))=true) (h10:((kept (tkO 1 0 N)+kept (tkL 1 N)).ble N)=true) (h11:((kept (tkO 1 (kept (tkO 1 0 N)) (kept (tkL 1 N)))+kept (tkL 1 (kept (tkL 1 N)))).ble N)=true) (h12:(!(AV.bool (kept (kept (kept (true && Nat.ble 1 N) && Nat.ble 1 (kept (tkL 1 N))) && Nat.ble 1 (kept (tkL 1 (kept (tkL 1 N))))))).boolOf)=false) (h13:(xak (Int.ofNat 0) (Int.ofNat (kept (tkL 1 (kept (tkL 1 (kept (tkL 1 N))))))))=false) (h14:(!kept (xbi (Int.ofNat (zA N cs)) (AV.int IntKind.u8 (Int.ofNat (zB N cs))).intOf (AV.int IntKind.u8 (Int.ofNat (zH N cs))).intOf (Int.ofNat 0) (Int.ofNat 0) 0 0 []))=true) :
 ∃ h',zC N cs=some (AV.tuple [AV.agg zV,AV.int IntKind.i64 (Int.ofNat 3)],h')∧[0].map h'.get=[Blk.cells true 5 N cs] :=
 xaa (q:=qNs [15,0,6,0,0,0,0,6,0,8,1,1,1,1,1,0,11,0,6,0,0,0,0,6,0,11,0,6,0,0,0,0,6,0,11,1,1,1,1,5,1,1,1,1,17,1,10,1,1,0,20]) (c:=(cnT::cnT::cnT::cnT::cnT::cnT::cnF::cnF::cnF::cnF::cnF::cnT::cnT::cnT::cnT::cnT::cnT::cnT::cnT::cnT::cnT::cnT::cnT::cnT::cnF::cnF::cnF::cnF::cnF::cnF::cnF::cnF::cnF::cnF::cnF::cnT::[])) (by kernel_rfl) ⟨h0,h0,h1,h2,h3,h0,h4,h5,h6,h7,h8,h9,h0,h0,h1,h2,h10,h0,h0,h0,h1,h2,h11,h0,h12,h12,h12,h12,h12,h12,h12,h13,h13,h13,h13,h14,trivial⟩
theorem Pa_ffffftfff (N:Nat) (cs:List AV) (h0:(AV.plainL cs)=true) (h1:(u8L cs)=true) (h2:(cs.length.beq N)=true) (h3:((0+N).ble N)=true) (h4:(xae (Int.ofNat (zA N cs)) (Int.ofNat 1))=false) (h5:(xae (Int.ofNat (zA N cs)) (Int.ofNat 2))=false) (h6:(xae (Int.ofNat (zA N cs)) (Int.ofNat 3))=false) (h7:(xae (Int.ofNat (zA N cs)) (Int.ofNat 5))=false) (h8:(xae (Int.ofNat (zA N cs)) (Int.ofNat 6))=false) (h9:(xae (Int.ofNat (zA N cs)) (Int.ofNat 7))=true) (h10:((kept (tkO 1 0 N)+kept (tkL 1 N)).ble N)=true) (h11:((kept (tkO 1 (kept (tkO 1 0 N)) (kept (tkL 1 N)))+kept (tkL 1 (kept (tkL 1 N)))).ble N)=true) (h12:(!(AV.bool (kept (kept (kept (true && Nat.ble 1 N) && Nat.ble 1 (kept (tkL 1 N))) && Nat.ble 1 (kept (tkL 1 (kept (tkL 1 N))))))).boolOf)=false) (h13:(xak (Int.ofNat 0) (Int.ofNat (kept (tkL 1 (kept (tkL 1 (kept (tkL 1 N))))))))=false) (h14:(!kept (xbi (Int.ofNat (zA N cs)) (AV.int IntKind.u8 (Int.ofNat (zB N cs))).intOf (AV.int IntKind.u8 (Int.ofNat (zH N cs))).intOf (Int.ofNat 0) (Int.ofNat 0) 0 0 []))=false) :
 ∃ h',zC N cs=some (AV.tuple [AV.agg [AV.int IntKind.u8 (Int.ofNat (zA N cs)),AV.int IntKind.u8 (AV.int IntKind.u8 (AV.int IntKind.u8 (Int.ofNat (zB N cs))).intOf).intOf,AV.int IntKind.u8 (AV.int IntKind.u8 (AV.int IntKind.u8 (Int.ofNat (zH N cs))).intOf).intOf,AV.int IntKind.u32 (Int.ofNat 0),AV.int IntKind.u8 (Int.ofNat 0),AV.slice none 0 (some 0),AV.slice none 0 (some 0)],AV.int IntKind.i64 (Int.ofNat 0)],h')∧[0].map h'.get=[Blk.cells true 5 N cs] :=
 xaa (q:=qNs [15,0,6,0,0,0,0,6,0,8,1,1,1,1,1,0,11,0,6,0,0,0,0,6,0,11,0,6,0,0,0,0,6,0,11,1,1,1,1,5,1,1,1,1,17,1,10,1,1,1,35]) (c:=(cnT::cnT::cnT::cnT::cnT::cnT::cnF::cnF::cnF::cnF::cnF::cnT::cnT::cnT::cnT::cnT::cnT::cnT::cnT::cnT::cnT::cnT::cnT::cnT::cnF::cnF::cnF::cnF::cnF::cnF::cnF::cnF::cnF::cnF::cnF::cnF::[])) (by kernel_rfl) ⟨h0,h0,h1,h2,h3,h0,h4,h5,h6,h7,h8,h9,h0,h0,h1,h2,h10,h0,h0,h0,h1,h2,h11,h0,h12,h12,h12,h12,h12,h12,h12,h13,h13,h13,h13,h14,trivial⟩
theorem Pa_fffffffft (N:Nat) (cs:List AV) (h0:(AV.plainL cs)=true) (h1:(u8L cs)=true) (h2:(cs.length.beq N)=true) (h3:((0+N).ble N)=true) (h4:(xae (Int.ofNat (zA N cs)) (Int.ofNat 1))=false) (h5:(xae (Int.ofNat (zA N cs)) (Int.ofNat 2))=false) (h6:(xae (Int.ofNat (zA N cs)) (Int.ofNat 3))=false) (h7:(xae (Int.ofNat (zA N cs)) (Int.ofNat 5))=false) (h8:(xae (Int.ofNat (zA N cs)) (Int.ofNat 6))=false) (h9:(xae (Int.ofNat (zA N cs)) (Int.ofNat 7))=false) (h10:(!(AV.bool (kept (true && Nat.ble 1 N))).boolOf)=false) (h11:(xak (Int.ofNat 0) (Int.ofNat (kept (tkL 1 N))))=false) (h12:(!kept (xbi (Int.ofNat (zA N cs)) (Int.ofNat 0) (Int.ofNat 0) (Int.ofNat 0) (Int.ofNat 0) 0 0 []))=true) :
 ∃ h',zC N cs=some (AV.tuple [AV.agg zV,AV.int IntKind.i64 (Int.ofNat 3)],h')∧[0].map h'.get=[Blk.cells true 5 N cs] :=
 xaa (q:=qNs [15,0,6,0,0,0,0,6,0,8,1,1,1,1,1,1,5,1,1,1,1,5,1,1,1,1,17,1,10,1,1,0,20]) (c:=(cnT::cnT::cnT::cnT::cnT::cnT::cnF::cnF::cnF::cnF::cnF::cnF::cnF::cnF::cnF::cnF::cnF::cnF::cnF::cnF::cnF::cnF::cnF::cnT::[])) (by kernel_rfl) ⟨h0,h0,h1,h2,h3,h0,h4,h5,h6,h7,h8,h9,h10,h10,h10,h10,h10,h10,h10,h11,h11,h11,h11,h12,trivial⟩
theorem Pa_fffffffff (N:Nat) (cs:List AV) (h0:(AV.plainL cs)=true) (h1:(u8L cs)=true) (h2:(cs.length.beq N)=true) (h3:((0+N).ble N)=true) (h4:(xae (Int.ofNat (zA N cs)) (Int.ofNat 1))=false) (h5:(xae (Int.ofNat (zA N cs)) (Int.ofNat 2))=false) (h6:(xae (Int.ofNat (zA N cs)) (Int.ofNat 3))=false) (h7:(xae (Int.ofNat (zA N cs)) (Int.ofNat 5))=false) (h8:(xae (Int.ofNat (zA N cs)) (Int.ofNat 6))=false) (h9:(xae (Int.ofNat (zA N cs)) (Int.ofNat 7))=false) (h10:(!(AV.bool (kept (true && Nat.ble 1 N))).boolOf)=false) (h11:(xak (Int.ofNat 0) (Int.ofNat (kept (tkL 1 N))))=false) (h12:(!kept (xbi (Int.ofNat (zA N cs)) (Int.ofNat 0) (Int.ofNat 0) (Int.ofNat 0) (Int.ofNat 0) 0 0 []))=false) :
 ∃ h',zC N cs=some (AV.tuple [AV.agg [AV.int IntKind.u8 (Int.ofNat (zA N cs)),AV.int IntKind.u8 (Int.ofNat 0),AV.int IntKind.u8 (Int.ofNat 0),AV.int IntKind.u32 (Int.ofNat 0),AV.int IntKind.u8 (Int.ofNat 0),AV.slice none 0 (some 0),AV.slice none 0 (some 0)],AV.int IntKind.i64 (Int.ofNat 0)],h')∧[0].map h'.get=[Blk.cells true 5 N cs] :=
 xaa (q:=qNs [15,0,6,0,0,0,0,6,0,8,1,1,1,1,1,1,5,1,1,1,1,5,1,1,1,1,17,1,10,1,1,1,35]) (c:=(cnT::cnT::cnT::cnT::cnT::cnT::cnF::cnF::cnF::cnF::cnF::cnF::cnF::cnF::cnF::cnF::cnF::cnF::cnF::cnF::cnF::cnF::cnF::cnF::[])) (by kernel_rfl) ⟨h0,h0,h1,h2,h3,h0,h4,h5,h6,h7,h8,h9,h10,h10,h10,h10,h10,h10,h10,h11,h11,h11,h11,h12,trivial⟩
def xrw (w:List UInt8) (v:AV):Prop :=
 ∃ (f:Nat) (v0:AV) (h':xas) (c2:List Bool),xbl C10q f (.fn 60) [.slice (some (0,0)) w.length none] (mkL [.cells true 5 w.length (ofBytes w)])=some (v0,h')∧zkQ (xcc C10q) [0] h' v0=some (c2,v)∧xav c2=true∧h'.get 0=.cells true 5 w.length (ofBytes w)
theorem sz27:xcc C10q 27=1:=by kernel_rfl
theorem sz36:xcc C10q 36=1:=by kernel_rfl
theorem xkd (r:List UInt8):hdN r < 256:=by unfold hdN;exact (hdU r).toNat_lt
set_option maxHeartbeats 4000000 in
theorem par_1 (w:List UInt8) (hN:w.length ≤ 100000) (ho:hdN w=1):(xbu w=true → xrw w (VGd w))∧(xbu w=false → xrw w VBd):=by
 have f0:seg w 0 w.length=w:=by unfold seg;rw [List.drop_zero,List.take_of_length_le (Nat.le_refl _)]
 have s1:rsB 1 w <:+ w:=xdg 1 w
 have t1:=xdy 1 (List.suffix_refl w) rfl (off:=0) (by omega)
 have f1:=xdk s1
 have n1:=s1.length_le
 have o1:xae (Int.ofNat (hdN w)) (Int.ofNat 1)=true:=by rw [ho];rfl
 have dr:True:=trivial
 have s2:=(xdg 4 (rsB 1 w)).trans s1
 have t2:=xdy 4 s1 rfl (off:=w.length - (rsB 1 w).length) (by omega)
 have f2:=xdk s2
 have n2:=s2.length_le
 have t3:=xdy 1 s2 rfl (off:=w.length - (rsB 4 (rsB 1 w)).length) (by omega)
 have b9:=xkd (rsB 4 (rsB 1 w))
 have eS:xel w=⟨(Nat.ble 1 w.length && Nat.ble 4 (rsB 1 w).length) && Nat.ble 1 (rsB 4 (rsB 1 w)).length,rsB 1 (rsB 4 (rsB 1 w)),0,0,xdb (rsB 1 w),hdN (rsB 4 (rsB 1 w)),[],[]⟩:=by unfold xel;simp only [if_pos ho]
 have eK:(xel w).k=((Nat.ble 1 w.length && Nat.ble 4 (rsB 1 w).length) && Nat.ble 1 (rsB 4 (rsB 1 w)).length):=by rw [eS]
 have eR:(xel w).r=rsB 1 (rsB 4 (rsB 1 w)):=by rw [eS]
 cases hk:((Nat.ble 1 w.length && Nat.ble 4 (rsB 1 w).length) && Nat.ble 1 (rsB 4 (rsB 1 w)).length:Bool) with
 | false =>
  have no:xbu w=false:=by unfold xbu;rw [eK,hk];rfl
  refine ⟨fun h=>(by rw [no] at h;cases h),fun _=>?_⟩
  have key:=Pa_tt w.length (ofBytes w)
  iterate 8
   replace key:=key (by
    (try simp only [PL,ZL,zC,zV,xab,f0,t1,f1,t2,f2,dr,o1,t3,hk])
    first
     | done
     | with_reducible rfl
     | (rw [xbq];exact decide_eq_true (by omega))
     | (rw [xbn];exact decide_eq_true (by omega))
     | (rw [xax];exact decide_eq_true (by simp only [Int.ofNat_eq_natCast];omega)))
  obtain ⟨h',h,hb⟩:=key
  simp only [PL,ZL,zC,zV,xab,f0,t1,f1,t2,f2,dr,o1,t3,List.map_cons,List.map_nil] at h hb
  injection hb with g0 _
  exact ⟨60,_,h',[],h,rfl,rfl,g0⟩
 | true =>
 by_cases hr:(rsB 1 (rsB 4 (rsB 1 w))).length=0
 case neg =>
  have no:xbu w=false:=by unfold xbu;rw [eR,show Nat.beq (rsB 1 (rsB 4 (rsB 1 w))).length 0=false by rw [xbn];exact decide_eq_false hr,Bool.false_and,Bool.and_false]
  have l0:xak (Int.ofNat 0) (Int.ofNat (rsB 1 (rsB 4 (rsB 1 w))).length)=true:=by rw [xat];exact decide_eq_true (Int.ofNat_lt.2 (Nat.pos_of_ne_zero hr))
  refine ⟨fun h=>(by rw [no] at h;cases h),fun _=>?_⟩
  have key:=Pa_tft w.length (ofBytes w)
  iterate 9
   replace key:=key (by
    (try simp only [PL,ZL,zC,zV,xab,f0,t1,f1,t2,f2,dr,o1,t3,hk,l0])
    first
     | done
     | with_reducible rfl
     | (rw [xbq];exact decide_eq_true (by omega))
     | (rw [xbn];exact decide_eq_true (by omega))
     | (rw [xax];exact decide_eq_true (by simp only [Int.ofNat_eq_natCast];omega)))
  obtain ⟨h',h,hb⟩:=key
  simp only [PL,ZL,zC,zV,xab,f0,t1,f1,t2,f2,dr,o1,t3,List.map_cons,List.map_nil] at h hb
  injection hb with g0 _
  exact ⟨60,_,h',[],h,rfl,rfl,g0⟩
 have l0:xak (Int.ofNat 0) (Int.ofNat (rsB 1 (rsB 4 (rsB 1 w))).length)=false:=by rw [xat,hr];rfl
 have eP:xqk w=xbi (Int.ofNat (hdN w)) (Int.ofNat 0) (Int.ofNat 0) (Int.ofNat (xdb (rsB 1 w))) (Int.ofNat (hdN (rsB 4 (rsB 1 w)))) 0 0 []:=by unfold xqk;rw [eS];rfl
 have eO:xbu w=xbi (Int.ofNat (hdN w)) (Int.ofNat 0) (Int.ofNat 0) (Int.ofNat (xdb (rsB 1 w))) (Int.ofNat (hdN (rsB 4 (rsB 1 w)))) 0 0 []:=by unfold xbu;rw [eK,eR,hk,hr,eP];rfl
 cases hq:(xbi (Int.ofNat (hdN w)) (Int.ofNat 0) (Int.ofNat 0) (Int.ofNat (xdb (rsB 1 w))) (Int.ofNat (hdN (rsB 4 (rsB 1 w)))) 0 0 []) with
 | false =>
  refine ⟨fun h=>(by rw [eO,hq] at h;cases h),fun _=>?_⟩
  have key:=Pa_tfft w.length (ofBytes w)
  iterate 11
   replace key:=key (by
    (try simp only [PL,ZL,zC,zV,xab,f0,t1,f1,t2,f2,dr,o1,t3,hk,l0,hq])
    first
     | done
     | with_reducible rfl
     | (rw [xbq];exact decide_eq_true (by omega))
     | (rw [xbn];exact decide_eq_true (by omega))
     | (rw [xax];exact decide_eq_true (by simp only [Int.ofNat_eq_natCast];omega)))
  obtain ⟨h',h,hb⟩:=key
  simp only [PL,ZL,zC,zV,xab,f0,t1,f1,t2,f2,dr,o1,t3,List.map_cons,List.map_nil] at h hb
  injection hb with g0 _
  exact ⟨60,_,h',[],h,rfl,rfl,g0⟩
 | true =>
  refine ⟨fun _=>?_,fun h=>(by rw [eO,hq] at h;cases h)⟩
  have ev:(VGd w)=(AV.tuple [.agg [.int .u8 (Int.ofNat (hdN w)), .int .u8 (Int.ofNat 0), .int .u8 (Int.ofNat 0), .int .u32 (Int.ofNat (xdb (rsB 1 w))), .int .u8 (Int.ofNat (hdN (rsB 4 (rsB 1 w)))), .fsl true 0 [], .fsl true 0 []], .int .i64 (Int.ofNat 0)]):=by unfold VGd xmc qPl qFi qCt qA qD;rw [eS];rfl
  rw [ev]
  have key:=Pa_tfff w.length (ofBytes w)
  iterate 11
   replace key:=key (by
    (try simp only [PL,ZL,zC,zV,xab,f0,t1,f1,t2,f2,dr,o1,t3,hk,l0,hq])
    first
     | done
     | with_reducible rfl
     | (rw [xbq];exact decide_eq_true (by omega))
     | (rw [xbn];exact decide_eq_true (by omega))
     | (rw [xax];exact decide_eq_true (by simp only [Int.ofNat_eq_natCast];omega)))
  obtain ⟨h',h,hb⟩:=key
  simp only [PL,ZL,zC,zV,xab,f0,t1,f1,t2,f2,dr,o1,t3,List.map_cons,List.map_nil] at h hb
  injection hb with g0 _
  exact ⟨60,_,h',[],h,rfl,rfl,g0⟩
set_option maxHeartbeats 4000000 in
theorem par_5 (w:List UInt8) (hN:w.length ≤ 100000) (ho:hdN w=5):(xbu w=true → xrw w (VGd w))∧(xbu w=false → xrw w VBd):=by
 have f0:seg w 0 w.length=w:=by unfold seg;rw [List.drop_zero,List.take_of_length_le (Nat.le_refl _)]
 have s1:rsB 1 w <:+ w:=xdg 1 w
 have t1:=xdy 1 (List.suffix_refl w) rfl (off:=0) (by omega)
 have f1:=xdk s1
 have n1:=s1.length_le
 have o1:xae (Int.ofNat (hdN w)) (Int.ofNat 1)=false:=by rw [xaz];exact beq_eq_false_iff_ne.2 (fun h=>by simp only [Int.ofNat_eq_natCast] at h;omega)
 have o2:xae (Int.ofNat (hdN w)) (Int.ofNat 2)=false:=by rw [xaz];exact beq_eq_false_iff_ne.2 (fun h=>by simp only [Int.ofNat_eq_natCast] at h;omega)
 have o3:xae (Int.ofNat (hdN w)) (Int.ofNat 3)=false:=by rw [xaz];exact beq_eq_false_iff_ne.2 (fun h=>by simp only [Int.ofNat_eq_natCast] at h;omega)
 have o5:xae (Int.ofNat (hdN w)) (Int.ofNat 5)=true:=by rw [ho];rfl
 have dr:True:=trivial
 have s2:=(xdg 1 (rsB 1 w)).trans s1
 have t2:=xdy 1 s1 rfl (off:=w.length - (rsB 1 w).length) (by omega)
 have f2:=xdk s2
 have n2:=s2.length_le
 have t3:=xdy 1 s2 rfl (off:=w.length - (rsB 1 (rsB 1 w)).length) (by omega)
 have b8:=xkd (rsB 1 w)
 have b9:=xkd (rsB 1 (rsB 1 w))
 have eS:xel w=⟨(Nat.ble 1 w.length && Nat.ble 1 (rsB 1 w).length) && Nat.ble 1 (rsB 1 (rsB 1 w)).length,rsB 1 (rsB 1 (rsB 1 w)),hdN (rsB 1 w),hdN (rsB 1 (rsB 1 w)),0,0,[],[]⟩:=by unfold xel;simp only [if_neg (show hdN w ≠ 1 by omega),if_neg (show ¬(hdN w=2 ∨ hdN w=3) by omega),if_pos (show hdN w=5 ∨ hdN w=6 ∨ hdN w=7 by omega)]
 have eK:(xel w).k=((Nat.ble 1 w.length && Nat.ble 1 (rsB 1 w).length) && Nat.ble 1 (rsB 1 (rsB 1 w)).length):=by rw [eS]
 have eR:(xel w).r=rsB 1 (rsB 1 (rsB 1 w)):=by rw [eS]
 cases hk:((Nat.ble 1 w.length && Nat.ble 1 (rsB 1 w).length) && Nat.ble 1 (rsB 1 (rsB 1 w)).length:Bool) with
 | false =>
  have no:xbu w=false:=by unfold xbu;rw [eK,hk];rfl
  refine ⟨fun h=>(by rw [no] at h;cases h),fun _=>?_⟩
  have key:=Pa_ffftt w.length (ofBytes w)
  iterate 11
   replace key:=key (by
    (try simp only [PL,ZL,zC,zV,xab,f0,t1,f1,t2,f2,dr,o1,o2,o3,o5,t3,hk])
    first
     | done
     | with_reducible rfl
     | (rw [xbq];exact decide_eq_true (by omega))
     | (rw [xbn];exact decide_eq_true (by omega))
     | (rw [xax];exact decide_eq_true (by simp only [Int.ofNat_eq_natCast];omega)))
  obtain ⟨h',h,hb⟩:=key
  simp only [PL,ZL,zC,zV,xab,f0,t1,f1,t2,f2,dr,o1,o2,o3,o5,t3,List.map_cons,List.map_nil] at h hb
  injection hb with g0 _
  exact ⟨60,_,h',[],h,rfl,rfl,g0⟩
 | true =>
 by_cases hr:(rsB 1 (rsB 1 (rsB 1 w))).length=0
 case neg =>
  have no:xbu w=false:=by unfold xbu;rw [eR,show Nat.beq (rsB 1 (rsB 1 (rsB 1 w))).length 0=false by rw [xbn];exact decide_eq_false hr,Bool.false_and,Bool.and_false]
  have l0:xak (Int.ofNat 0) (Int.ofNat (rsB 1 (rsB 1 (rsB 1 w))).length)=true:=by rw [xat];exact decide_eq_true (Int.ofNat_lt.2 (Nat.pos_of_ne_zero hr))
  refine ⟨fun h=>(by rw [no] at h;cases h),fun _=>?_⟩
  have key:=Pa_ffftft w.length (ofBytes w)
  iterate 12
   replace key:=key (by
    (try simp only [PL,ZL,zC,zV,xab,f0,t1,f1,t2,f2,dr,o1,o2,o3,o5,t3,hk,l0])
    first
     | done
     | with_reducible rfl
     | (rw [xbq];exact decide_eq_true (by omega))
     | (rw [xbn];exact decide_eq_true (by omega))
     | (rw [xax];exact decide_eq_true (by simp only [Int.ofNat_eq_natCast];omega)))
  obtain ⟨h',h,hb⟩:=key
  simp only [PL,ZL,zC,zV,xab,f0,t1,f1,t2,f2,dr,o1,o2,o3,o5,t3,List.map_cons,List.map_nil] at h hb
  injection hb with g0 _
  exact ⟨60,_,h',[],h,rfl,rfl,g0⟩
 have l0:xak (Int.ofNat 0) (Int.ofNat (rsB 1 (rsB 1 (rsB 1 w))).length)=false:=by rw [xat,hr];rfl
 have eP:xqk w=xbi (Int.ofNat (hdN w)) (Int.ofNat (hdN (rsB 1 w))) (Int.ofNat (hdN (rsB 1 (rsB 1 w)))) (Int.ofNat 0) (Int.ofNat 0) 0 0 []:=by unfold xqk;rw [eS];rfl
 have eO:xbu w=xbi (Int.ofNat (hdN w)) (Int.ofNat (hdN (rsB 1 w))) (Int.ofNat (hdN (rsB 1 (rsB 1 w)))) (Int.ofNat 0) (Int.ofNat 0) 0 0 []:=by unfold xbu;rw [eK,eR,hk,hr,eP];rfl
 cases hq:(xbi (Int.ofNat (hdN w)) (Int.ofNat (hdN (rsB 1 w))) (Int.ofNat (hdN (rsB 1 (rsB 1 w)))) (Int.ofNat 0) (Int.ofNat 0) 0 0 []) with
 | false =>
  refine ⟨fun h=>(by rw [eO,hq] at h;cases h),fun _=>?_⟩
  have key:=Pa_ffftfft w.length (ofBytes w)
  iterate 13
   replace key:=key (by
    (try simp only [PL,ZL,zC,zV,xab,f0,t1,f1,t2,f2,dr,o1,o2,o3,o5,t3,hk,l0,hq])
    first
     | done
     | with_reducible rfl
     | (rw [xbq];exact decide_eq_true (by omega))
     | (rw [xbn];exact decide_eq_true (by omega))
     | (rw [xax];exact decide_eq_true (by simp only [Int.ofNat_eq_natCast];omega)))
  obtain ⟨h',h,hb⟩:=key
  simp only [PL,ZL,zC,zV,xab,f0,t1,f1,t2,f2,dr,o1,o2,o3,o5,t3,List.map_cons,List.map_nil] at h hb
  injection hb with g0 _
  exact ⟨60,_,h',[],h,rfl,rfl,g0⟩
 | true =>
  refine ⟨fun _=>?_,fun h=>(by rw [eO,hq] at h;cases h)⟩
  have ev:(VGd w)=(AV.tuple [.agg [.int .u8 (Int.ofNat (hdN w)), .int .u8 (Int.ofNat (hdN (rsB 1 w))), .int .u8 (Int.ofNat (hdN (rsB 1 (rsB 1 w)))), .int .u32 (Int.ofNat 0), .int .u8 (Int.ofNat 0), .fsl true 0 [], .fsl true 0 []], .int .i64 (Int.ofNat 0)]):=by unfold VGd xmc qPl qFi qCt qA qD;rw [eS];rfl
  rw [ev]
  have key:=Pa_ffftfff w.length (ofBytes w)
  iterate 13
   replace key:=key (by
    (try simp only [PL,ZL,zC,zV,xab,f0,t1,f1,t2,f2,dr,o1,o2,o3,o5,t3,hk,l0,hq])
    first
     | done
     | with_reducible rfl
     | (rw [xbq];exact decide_eq_true (by omega))
     | (rw [xbn];exact decide_eq_true (by omega))
     | (rw [xax];exact decide_eq_true (by simp only [Int.ofNat_eq_natCast];omega)))
  obtain ⟨h',h,hb⟩:=key
  simp only [PL,ZL,zC,zV,xab,f0,t1,f1,t2,f2,dr,o1,o2,o3,o5,t3,List.map_cons,List.map_nil] at h hb
  injection hb with g0 _
  exact ⟨60,_,h',[],h,rfl,rfl,g0⟩
set_option maxHeartbeats 4000000 in
theorem par_6 (w:List UInt8) (hN:w.length ≤ 100000) (ho:hdN w=6):(xbu w=true → xrw w (VGd w))∧(xbu w=false → xrw w VBd):=by
 have f0:seg w 0 w.length=w:=by unfold seg;rw [List.drop_zero,List.take_of_length_le (Nat.le_refl _)]
 have s1:rsB 1 w <:+ w:=xdg 1 w
 have t1:=xdy 1 (List.suffix_refl w) rfl (off:=0) (by omega)
 have f1:=xdk s1
 have n1:=s1.length_le
 have o1:xae (Int.ofNat (hdN w)) (Int.ofNat 1)=false:=by rw [xaz];exact beq_eq_false_iff_ne.2 (fun h=>by simp only [Int.ofNat_eq_natCast] at h;omega)
 have o2:xae (Int.ofNat (hdN w)) (Int.ofNat 2)=false:=by rw [xaz];exact beq_eq_false_iff_ne.2 (fun h=>by simp only [Int.ofNat_eq_natCast] at h;omega)
 have o3:xae (Int.ofNat (hdN w)) (Int.ofNat 3)=false:=by rw [xaz];exact beq_eq_false_iff_ne.2 (fun h=>by simp only [Int.ofNat_eq_natCast] at h;omega)
 have o5:xae (Int.ofNat (hdN w)) (Int.ofNat 5)=false:=by rw [xaz];exact beq_eq_false_iff_ne.2 (fun h=>by simp only [Int.ofNat_eq_natCast] at h;omega)
 have o6:xae (Int.ofNat (hdN w)) (Int.ofNat 6)=true:=by rw [ho];rfl
 have dr:True:=trivial
 have s2:=(xdg 1 (rsB 1 w)).trans s1
 have t2:=xdy 1 s1 rfl (off:=w.length - (rsB 1 w).length) (by omega)
 have f2:=xdk s2
 have n2:=s2.length_le
 have t3:=xdy 1 s2 rfl (off:=w.length - (rsB 1 (rsB 1 w)).length) (by omega)
 have b8:=xkd (rsB 1 w)
 have b9:=xkd (rsB 1 (rsB 1 w))
 have eS:xel w=⟨(Nat.ble 1 w.length && Nat.ble 1 (rsB 1 w).length) && Nat.ble 1 (rsB 1 (rsB 1 w)).length,rsB 1 (rsB 1 (rsB 1 w)),hdN (rsB 1 w),hdN (rsB 1 (rsB 1 w)),0,0,[],[]⟩:=by unfold xel;simp only [if_neg (show hdN w ≠ 1 by omega),if_neg (show ¬(hdN w=2 ∨ hdN w=3) by omega),if_pos (show hdN w=5 ∨ hdN w=6 ∨ hdN w=7 by omega)]
 have eK:(xel w).k=((Nat.ble 1 w.length && Nat.ble 1 (rsB 1 w).length) && Nat.ble 1 (rsB 1 (rsB 1 w)).length):=by rw [eS]
 have eR:(xel w).r=rsB 1 (rsB 1 (rsB 1 w)):=by rw [eS]
 cases hk:((Nat.ble 1 w.length && Nat.ble 1 (rsB 1 w).length) && Nat.ble 1 (rsB 1 (rsB 1 w)).length:Bool) with
 | false =>
  have no:xbu w=false:=by unfold xbu;rw [eK,hk];rfl
  refine ⟨fun h=>(by rw [no] at h;cases h),fun _=>?_⟩
  have key:=Pa_fffftt w.length (ofBytes w)
  iterate 12
   replace key:=key (by
    (try simp only [PL,ZL,zC,zV,xab,f0,t1,f1,t2,f2,dr,o1,o2,o3,o5,o6,t3,hk])
    first
     | done
     | with_reducible rfl
     | (rw [xbq];exact decide_eq_true (by omega))
     | (rw [xbn];exact decide_eq_true (by omega))
     | (rw [xax];exact decide_eq_true (by simp only [Int.ofNat_eq_natCast];omega)))
  obtain ⟨h',h,hb⟩:=key
  simp only [PL,ZL,zC,zV,xab,f0,t1,f1,t2,f2,dr,o1,o2,o3,o5,o6,t3,List.map_cons,List.map_nil] at h hb
  injection hb with g0 _
  exact ⟨60,_,h',[],h,rfl,rfl,g0⟩
 | true =>
 by_cases hr:(rsB 1 (rsB 1 (rsB 1 w))).length=0
 case neg =>
  have no:xbu w=false:=by unfold xbu;rw [eR,show Nat.beq (rsB 1 (rsB 1 (rsB 1 w))).length 0=false by rw [xbn];exact decide_eq_false hr,Bool.false_and,Bool.and_false]
  have l0:xak (Int.ofNat 0) (Int.ofNat (rsB 1 (rsB 1 (rsB 1 w))).length)=true:=by rw [xat];exact decide_eq_true (Int.ofNat_lt.2 (Nat.pos_of_ne_zero hr))
  refine ⟨fun h=>(by rw [no] at h;cases h),fun _=>?_⟩
  have key:=Pa_fffftft w.length (ofBytes w)
  iterate 13
   replace key:=key (by
    (try simp only [PL,ZL,zC,zV,xab,f0,t1,f1,t2,f2,dr,o1,o2,o3,o5,o6,t3,hk,l0])
    first
     | done
     | with_reducible rfl
     | (rw [xbq];exact decide_eq_true (by omega))
     | (rw [xbn];exact decide_eq_true (by omega))
     | (rw [xax];exact decide_eq_true (by simp only [Int.ofNat_eq_natCast];omega)))
  obtain ⟨h',h,hb⟩:=key
  simp only [PL,ZL,zC,zV,xab,f0,t1,f1,t2,f2,dr,o1,o2,o3,o5,o6,t3,List.map_cons,List.map_nil] at h hb
  injection hb with g0 _
  exact ⟨60,_,h',[],h,rfl,rfl,g0⟩
 have l0:xak (Int.ofNat 0) (Int.ofNat (rsB 1 (rsB 1 (rsB 1 w))).length)=false:=by rw [xat,hr];rfl
 have eP:xqk w=xbi (Int.ofNat (hdN w)) (Int.ofNat (hdN (rsB 1 w))) (Int.ofNat (hdN (rsB 1 (rsB 1 w)))) (Int.ofNat 0) (Int.ofNat 0) 0 0 []:=by unfold xqk;rw [eS];rfl
 have eO:xbu w=xbi (Int.ofNat (hdN w)) (Int.ofNat (hdN (rsB 1 w))) (Int.ofNat (hdN (rsB 1 (rsB 1 w)))) (Int.ofNat 0) (Int.ofNat 0) 0 0 []:=by unfold xbu;rw [eK,eR,hk,hr,eP];rfl
 cases hq:(xbi (Int.ofNat (hdN w)) (Int.ofNat (hdN (rsB 1 w))) (Int.ofNat (hdN (rsB 1 (rsB 1 w)))) (Int.ofNat 0) (Int.ofNat 0) 0 0 []) with
 | false =>
  refine ⟨fun h=>(by rw [eO,hq] at h;cases h),fun _=>?_⟩
  have key:=Pa_fffftfft w.length (ofBytes w)
  iterate 14
   replace key:=key (by
    (try simp only [PL,ZL,zC,zV,xab,f0,t1,f1,t2,f2,dr,o1,o2,o3,o5,o6,t3,hk,l0,hq])
    first
     | done
     | with_reducible rfl
     | (rw [xbq];exact decide_eq_true (by omega))
     | (rw [xbn];exact decide_eq_true (by omega))
     | (rw [xax];exact decide_eq_true (by simp only [Int.ofNat_eq_natCast];omega)))
  obtain ⟨h',h,hb⟩:=key
  simp only [PL,ZL,zC,zV,xab,f0,t1,f1,t2,f2,dr,o1,o2,o3,o5,o6,t3,List.map_cons,List.map_nil] at h hb
  injection hb with g0 _
  exact ⟨60,_,h',[],h,rfl,rfl,g0⟩
 | true =>
  refine ⟨fun _=>?_,fun h=>(by rw [eO,hq] at h;cases h)⟩
  have ev:(VGd w)=(AV.tuple [.agg [.int .u8 (Int.ofNat (hdN w)), .int .u8 (Int.ofNat (hdN (rsB 1 w))), .int .u8 (Int.ofNat (hdN (rsB 1 (rsB 1 w)))), .int .u32 (Int.ofNat 0), .int .u8 (Int.ofNat 0), .fsl true 0 [], .fsl true 0 []], .int .i64 (Int.ofNat 0)]):=by unfold VGd xmc qPl qFi qCt qA qD;rw [eS];rfl
  rw [ev]
  have key:=Pa_fffftfff w.length (ofBytes w)
  iterate 14
   replace key:=key (by
    (try simp only [PL,ZL,zC,zV,xab,f0,t1,f1,t2,f2,dr,o1,o2,o3,o5,o6,t3,hk,l0,hq])
    first
     | done
     | with_reducible rfl
     | (rw [xbq];exact decide_eq_true (by omega))
     | (rw [xbn];exact decide_eq_true (by omega))
     | (rw [xax];exact decide_eq_true (by simp only [Int.ofNat_eq_natCast];omega)))
  obtain ⟨h',h,hb⟩:=key
  simp only [PL,ZL,zC,zV,xab,f0,t1,f1,t2,f2,dr,o1,o2,o3,o5,o6,t3,List.map_cons,List.map_nil] at h hb
  injection hb with g0 _
  exact ⟨60,_,h',[],h,rfl,rfl,g0⟩
set_option maxHeartbeats 4000000 in
theorem par_7 (w:List UInt8) (hN:w.length ≤ 100000) (ho:hdN w=7):(xbu w=true → xrw w (VGd w))∧(xbu w=false → xrw w VBd):=by
 have f0:seg w 0 w.length=w:=by unfold seg;rw [List.drop_zero,List.take_of_length_le (Nat.le_refl _)]
 have s1:rsB 1 w <:+ w:=xdg 1 w
 have t1:=xdy 1 (List.suffix_refl w) rfl (off:=0) (by omega)
 have f1:=xdk s1
 have n1:=s1.length_le
 have o1:xae (Int.ofNat (hdN w)) (Int.ofNat 1)=false:=by rw [xaz];exact beq_eq_false_iff_ne.2 (fun h=>by simp only [Int.ofNat_eq_natCast] at h;omega)
 have o2:xae (Int.ofNat (hdN w)) (Int.ofNat 2)=false:=by rw [xaz];exact beq_eq_false_iff_ne.2 (fun h=>by simp only [Int.ofNat_eq_natCast] at h;omega)
 have o3:xae (Int.ofNat (hdN w)) (Int.ofNat 3)=false:=by rw [xaz];exact beq_eq_false_iff_ne.2 (fun h=>by simp only [Int.ofNat_eq_natCast] at h;omega)
 have o5:xae (Int.ofNat (hdN w)) (Int.ofNat 5)=false:=by rw [xaz];exact beq_eq_false_iff_ne.2 (fun h=>by simp only [Int.ofNat_eq_natCast] at h;omega)
 have o6:xae (Int.ofNat (hdN w)) (Int.ofNat 6)=false:=by rw [xaz];exact beq_eq_false_iff_ne.2 (fun h=>by simp only [Int.ofNat_eq_natCast] at h;omega)
 have o7:xae (Int.ofNat (hdN w)) (Int.ofNat 7)=true:=by rw [ho];rfl
 have dr:True:=trivial
 have s2:=(xdg 1 (rsB 1 w)).trans s1
 have t2:=xdy 1 s1 rfl (off:=w.length - (rsB 1 w).length) (by omega)
 have f2:=xdk s2
 have n2:=s2.length_le
 have t3:=xdy 1 s2 rfl (off:=w.length - (rsB 1 (rsB 1 w)).length) (by omega)
 have b8:=xkd (rsB 1 w)
 have b9:=xkd (rsB 1 (rsB 1 w))
 have eS:xel w=⟨(Nat.ble 1 w.length && Nat.ble 1 (rsB 1 w).length) && Nat.ble 1 (rsB 1 (rsB 1 w)).length,rsB 1 (rsB 1 (rsB 1 w)),hdN (rsB 1 w),hdN (rsB 1 (rsB 1 w)),0,0,[],[]⟩:=by unfold xel;simp only [if_neg (show hdN w ≠ 1 by omega),if_neg (show ¬(hdN w=2 ∨ hdN w=3) by omega),if_pos (show hdN w=5 ∨ hdN w=6 ∨ hdN w=7 by omega)]
 have eK:(xel w).k=((Nat.ble 1 w.length && Nat.ble 1 (rsB 1 w).length) && Nat.ble 1 (rsB 1 (rsB 1 w)).length):=by rw [eS]
 have eR:(xel w).r=rsB 1 (rsB 1 (rsB 1 w)):=by rw [eS]
 cases hk:((Nat.ble 1 w.length && Nat.ble 1 (rsB 1 w).length) && Nat.ble 1 (rsB 1 (rsB 1 w)).length:Bool) with
 | false =>
  have no:xbu w=false:=by unfold xbu;rw [eK,hk];rfl
  refine ⟨fun h=>(by rw [no] at h;cases h),fun _=>?_⟩
  have key:=Pa_ffffftt w.length (ofBytes w)
  iterate 13
   replace key:=key (by
    (try simp only [PL,ZL,zC,zV,xab,f0,t1,f1,t2,f2,dr,o1,o2,o3,o5,o6,o7,t3,hk])
    first
     | done
     | with_reducible rfl
     | (rw [xbq];exact decide_eq_true (by omega))
     | (rw [xbn];exact decide_eq_true (by omega))
     | (rw [xax];exact decide_eq_true (by simp only [Int.ofNat_eq_natCast];omega)))
  obtain ⟨h',h,hb⟩:=key
  simp only [PL,ZL,zC,zV,xab,f0,t1,f1,t2,f2,dr,o1,o2,o3,o5,o6,o7,t3,List.map_cons,List.map_nil] at h hb
  injection hb with g0 _
  exact ⟨60,_,h',[],h,rfl,rfl,g0⟩
 | true =>
 by_cases hr:(rsB 1 (rsB 1 (rsB 1 w))).length=0
 case neg =>
  have no:xbu w=false:=by unfold xbu;rw [eR,show Nat.beq (rsB 1 (rsB 1 (rsB 1 w))).length 0=false by rw [xbn];exact decide_eq_false hr,Bool.false_and,Bool.and_false]
  have l0:xak (Int.ofNat 0) (Int.ofNat (rsB 1 (rsB 1 (rsB 1 w))).length)=true:=by rw [xat];exact decide_eq_true (Int.ofNat_lt.2 (Nat.pos_of_ne_zero hr))
  refine ⟨fun h=>(by rw [no] at h;cases h),fun _=>?_⟩
  have key:=Pa_ffffftft w.length (ofBytes w)
  iterate 14
   replace key:=key (by
    (try simp only [PL,ZL,zC,zV,xab,f0,t1,f1,t2,f2,dr,o1,o2,o3,o5,o6,o7,t3,hk,l0])
    first
     | done
     | with_reducible rfl
     | (rw [xbq];exact decide_eq_true (by omega))
     | (rw [xbn];exact decide_eq_true (by omega))
     | (rw [xax];exact decide_eq_true (by simp only [Int.ofNat_eq_natCast];omega)))
  obtain ⟨h',h,hb⟩:=key
  simp only [PL,ZL,zC,zV,xab,f0,t1,f1,t2,f2,dr,o1,o2,o3,o5,o6,o7,t3,List.map_cons,List.map_nil] at h hb
  injection hb with g0 _
  exact ⟨60,_,h',[],h,rfl,rfl,g0⟩
 have l0:xak (Int.ofNat 0) (Int.ofNat (rsB 1 (rsB 1 (rsB 1 w))).length)=false:=by rw [xat,hr];rfl
 have eP:xqk w=xbi (Int.ofNat (hdN w)) (Int.ofNat (hdN (rsB 1 w))) (Int.ofNat (hdN (rsB 1 (rsB 1 w)))) (Int.ofNat 0) (Int.ofNat 0) 0 0 []:=by unfold xqk;rw [eS];rfl
 have eO:xbu w=xbi (Int.ofNat (hdN w)) (Int.ofNat (hdN (rsB 1 w))) (Int.ofNat (hdN (rsB 1 (rsB 1 w)))) (Int.ofNat 0) (Int.ofNat 0) 0 0 []:=by unfold xbu;rw [eK,eR,hk,hr,eP];rfl
 cases hq:(xbi (Int.ofNat (hdN w)) (Int.ofNat (hdN (rsB 1 w))) (Int.ofNat (hdN (rsB 1 (rsB 1 w)))) (Int.ofNat 0) (Int.ofNat 0) 0 0 []) with
 | false =>
  refine ⟨fun h=>(by rw [eO,hq] at h;cases h),fun _=>?_⟩
  have key:=Pa_ffffftfft w.length (ofBytes w)
  iterate 15
   replace key:=key (by
    (try simp only [PL,ZL,zC,zV,xab,f0,t1,f1,t2,f2,dr,o1,o2,o3,o5,o6,o7,t3,hk,l0,hq])
    first
     | done
     | with_reducible rfl
     | (rw [xbq];exact decide_eq_true (by omega))
     | (rw [xbn];exact decide_eq_true (by omega))
     | (rw [xax];exact decide_eq_true (by simp only [Int.ofNat_eq_natCast];omega)))
  obtain ⟨h',h,hb⟩:=key
  simp only [PL,ZL,zC,zV,xab,f0,t1,f1,t2,f2,dr,o1,o2,o3,o5,o6,o7,t3,List.map_cons,List.map_nil] at h hb
  injection hb with g0 _
  exact ⟨60,_,h',[],h,rfl,rfl,g0⟩
 | true =>
  refine ⟨fun _=>?_,fun h=>(by rw [eO,hq] at h;cases h)⟩
  have ev:(VGd w)=(AV.tuple [.agg [.int .u8 (Int.ofNat (hdN w)), .int .u8 (Int.ofNat (hdN (rsB 1 w))), .int .u8 (Int.ofNat (hdN (rsB 1 (rsB 1 w)))), .int .u32 (Int.ofNat 0), .int .u8 (Int.ofNat 0), .fsl true 0 [], .fsl true 0 []], .int .i64 (Int.ofNat 0)]):=by unfold VGd xmc qPl qFi qCt qA qD;rw [eS];rfl
  rw [ev]
  have key:=Pa_ffffftfff w.length (ofBytes w)
  iterate 15
   replace key:=key (by
    (try simp only [PL,ZL,zC,zV,xab,f0,t1,f1,t2,f2,dr,o1,o2,o3,o5,o6,o7,t3,hk,l0,hq])
    first
     | done
     | with_reducible rfl
     | (rw [xbq];exact decide_eq_true (by omega))
     | (rw [xbn];exact decide_eq_true (by omega))
     | (rw [xax];exact decide_eq_true (by simp only [Int.ofNat_eq_natCast];omega)))
  obtain ⟨h',h,hb⟩:=key
  simp only [PL,ZL,zC,zV,xab,f0,t1,f1,t2,f2,dr,o1,o2,o3,o5,o6,o7,t3,List.map_cons,List.map_nil] at h hb
  injection hb with g0 _
  exact ⟨60,_,h',[],h,rfl,rfl,g0⟩
set_option maxHeartbeats 4000000 in
theorem par_0 (w:List UInt8) (hN:w.length ≤ 100000) (ho:hdN w ≠ 1∧hdN w ≠ 2∧hdN w ≠ 3∧hdN w ≠ 5∧hdN w ≠ 6∧hdN w ≠ 7):(xbu w=true → xrw w (VGd w))∧(xbu w=false → xrw w VBd):=by
 have f0:seg w 0 w.length=w:=by unfold seg;rw [List.drop_zero,List.take_of_length_le (Nat.le_refl _)]
 have s1:rsB 1 w <:+ w:=xdg 1 w
 have t1:=xdy 1 (List.suffix_refl w) rfl (off:=0) (by omega)
 have f1:=xdk s1
 have n1:=s1.length_le
 have o1:xae (Int.ofNat (hdN w)) (Int.ofNat 1)=false:=by rw [xaz];exact beq_eq_false_iff_ne.2 (fun h=>by simp only [Int.ofNat_eq_natCast] at h;omega)
 have o2:xae (Int.ofNat (hdN w)) (Int.ofNat 2)=false:=by rw [xaz];exact beq_eq_false_iff_ne.2 (fun h=>by simp only [Int.ofNat_eq_natCast] at h;omega)
 have o3:xae (Int.ofNat (hdN w)) (Int.ofNat 3)=false:=by rw [xaz];exact beq_eq_false_iff_ne.2 (fun h=>by simp only [Int.ofNat_eq_natCast] at h;omega)
 have o5:xae (Int.ofNat (hdN w)) (Int.ofNat 5)=false:=by rw [xaz];exact beq_eq_false_iff_ne.2 (fun h=>by simp only [Int.ofNat_eq_natCast] at h;omega)
 have o6:xae (Int.ofNat (hdN w)) (Int.ofNat 6)=false:=by rw [xaz];exact beq_eq_false_iff_ne.2 (fun h=>by simp only [Int.ofNat_eq_natCast] at h;omega)
 have o7:xae (Int.ofNat (hdN w)) (Int.ofNat 7)=false:=by rw [xaz];exact beq_eq_false_iff_ne.2 (fun h=>by simp only [Int.ofNat_eq_natCast] at h;omega)
 have dr:True:=trivial
 have t2:True∧True:=⟨trivial,trivial⟩
 have f2:True:=trivial
 have eS:xel w=⟨Nat.ble 1 w.length,rsB 1 w,0,0,0,0,[],[]⟩:=by unfold xel;simp only [if_neg (show hdN w ≠ 1 by omega),if_neg (show ¬(hdN w=2 ∨ hdN w=3) by omega),if_neg (show ¬(hdN w=5 ∨ hdN w=6 ∨ hdN w=7) by omega)]
 have eK:(xel w).k=(Nat.ble 1 w.length):=by rw [eS]
 have eR:(xel w).r=rsB 1 w:=by rw [eS]
 cases hk:(Nat.ble 1 w.length:Bool) with
 | false =>
  have no:xbu w=false:=by unfold xbu;rw [eK,hk];rfl
  refine ⟨fun h=>(by rw [no] at h;cases h),fun _=>?_⟩
  have key:=Pa_fffffft w.length (ofBytes w)
  iterate 11
   replace key:=key (by
    (try simp only [PL,ZL,zC,zV,xab,f0,t1,f1,t2,f2,dr,o1,o2,o3,o5,o6,o7,hk])
    first
     | done
     | with_reducible rfl
     | (rw [xbq];exact decide_eq_true (by omega))
     | (rw [xbn];exact decide_eq_true (by omega))
     | (rw [xax];exact decide_eq_true (by simp only [Int.ofNat_eq_natCast];omega)))
  obtain ⟨h',h,hb⟩:=key
  simp only [PL,ZL,zC,zV,xab,f0,t1,f1,t2,f2,dr,o1,o2,o3,o5,o6,o7,List.map_cons,List.map_nil] at h hb
  injection hb with g0 _
  exact ⟨60,_,h',[],h,rfl,rfl,g0⟩
 | true =>
 by_cases hr:(rsB 1 w).length=0
 case neg =>
  have no:xbu w=false:=by unfold xbu;rw [eR,show Nat.beq (rsB 1 w).length 0=false by rw [xbn];exact decide_eq_false hr,Bool.false_and,Bool.and_false]
  have l0:xak (Int.ofNat 0) (Int.ofNat (rsB 1 w).length)=true:=by rw [xat];exact decide_eq_true (Int.ofNat_lt.2 (Nat.pos_of_ne_zero hr))
  refine ⟨fun h=>(by rw [no] at h;cases h),fun _=>?_⟩
  have key:=Pa_ffffffft w.length (ofBytes w)
  iterate 12
   replace key:=key (by
    (try simp only [PL,ZL,zC,zV,xab,f0,t1,f1,t2,f2,dr,o1,o2,o3,o5,o6,o7,hk,l0])
    first
     | done
     | with_reducible rfl
     | (rw [xbq];exact decide_eq_true (by omega))
     | (rw [xbn];exact decide_eq_true (by omega))
     | (rw [xax];exact decide_eq_true (by simp only [Int.ofNat_eq_natCast];omega)))
  obtain ⟨h',h,hb⟩:=key
  simp only [PL,ZL,zC,zV,xab,f0,t1,f1,t2,f2,dr,o1,o2,o3,o5,o6,o7,List.map_cons,List.map_nil] at h hb
  injection hb with g0 _
  exact ⟨60,_,h',[],h,rfl,rfl,g0⟩
 have l0:xak (Int.ofNat 0) (Int.ofNat (rsB 1 w).length)=false:=by rw [xat,hr];rfl
 have eP:xqk w=xbi (Int.ofNat (hdN w)) (Int.ofNat 0) (Int.ofNat 0) (Int.ofNat 0) (Int.ofNat 0) 0 0 []:=by unfold xqk;rw [eS];rfl
 have eO:xbu w=xbi (Int.ofNat (hdN w)) (Int.ofNat 0) (Int.ofNat 0) (Int.ofNat 0) (Int.ofNat 0) 0 0 []:=by unfold xbu;rw [eK,eR,hk,hr,eP];rfl
 cases hq:(xbi (Int.ofNat (hdN w)) (Int.ofNat 0) (Int.ofNat 0) (Int.ofNat 0) (Int.ofNat 0) 0 0 []) with
 | false =>
  refine ⟨fun h=>(by rw [eO,hq] at h;cases h),fun _=>?_⟩
  have key:=Pa_fffffffft w.length (ofBytes w)
  iterate 13
   replace key:=key (by
    (try simp only [PL,ZL,zC,zV,xab,f0,t1,f1,t2,f2,dr,o1,o2,o3,o5,o6,o7,hk,l0,hq])
    first
     | done
     | with_reducible rfl
     | (rw [xbq];exact decide_eq_true (by omega))
     | (rw [xbn];exact decide_eq_true (by omega))
     | (rw [xax];exact decide_eq_true (by simp only [Int.ofNat_eq_natCast];omega)))
  obtain ⟨h',h,hb⟩:=key
  simp only [PL,ZL,zC,zV,xab,f0,t1,f1,t2,f2,dr,o1,o2,o3,o5,o6,o7,List.map_cons,List.map_nil] at h hb
  injection hb with g0 _
  exact ⟨60,_,h',[],h,rfl,rfl,g0⟩
 | true =>
  refine ⟨fun _=>?_,fun h=>(by rw [eO,hq] at h;cases h)⟩
  have ev:(VGd w)=(AV.tuple [.agg [.int .u8 (Int.ofNat (hdN w)), .int .u8 (Int.ofNat 0), .int .u8 (Int.ofNat 0), .int .u32 (Int.ofNat 0), .int .u8 (Int.ofNat 0), .fsl true 0 [], .fsl true 0 []], .int .i64 (Int.ofNat 0)]):=by unfold VGd xmc qPl qFi qCt qA qD;rw [eS];rfl
  rw [ev]
  have key:=Pa_fffffffff w.length (ofBytes w)
  iterate 13
   replace key:=key (by
    (try simp only [PL,ZL,zC,zV,xab,f0,t1,f1,t2,f2,dr,o1,o2,o3,o5,o6,o7,hk,l0,hq])
    first
     | done
     | with_reducible rfl
     | (rw [xbq];exact decide_eq_true (by omega))
     | (rw [xbn];exact decide_eq_true (by omega))
     | (rw [xax];exact decide_eq_true (by simp only [Int.ofNat_eq_natCast];omega)))
  obtain ⟨h',h,hb⟩:=key
  simp only [PL,ZL,zC,zV,xab,f0,t1,f1,t2,f2,dr,o1,o2,o3,o5,o6,o7,List.map_cons,List.map_nil] at h hb
  injection hb with g0 _
  exact ⟨60,_,h',[],h,rfl,rfl,g0⟩
set_option maxHeartbeats 4000000 in
theorem par_2z (w:List UInt8) (hN:w.length ≤ 100000) (ho:hdN w=2) (hm:hdN (rsB 1 w)=0):(xbu w=true → xrw w (VGd w))∧(xbu w=false → xrw w VBd):=by
 have f0:seg w 0 w.length=w:=by unfold seg;rw [List.drop_zero,List.take_of_length_le (Nat.le_refl _)]
 have s1:rsB 1 w <:+ w:=xdg 1 w
 have t1:=xdy 1 (List.suffix_refl w) rfl (off:=0) (by omega)
 have f1:=xdk s1
 have n1:=s1.length_le
 have o1:xae (Int.ofNat (hdN w)) (Int.ofNat 1)=false:=by rw [xaz];exact beq_eq_false_iff_ne.2 (fun h=>by simp only [Int.ofNat_eq_natCast] at h;omega)
 have o2:xae (Int.ofNat (hdN w)) (Int.ofNat 2)=true:=by rw [ho];rfl
 have s2:=(xdg 1 (rsB 1 w)).trans s1
 have t2:=xdy 1 s1 rfl (off:=w.length - (rsB 1 w).length) (by omega)
 have f2:=xdk s2
 have n2:=s2.length_le
 have dr:List.drop (w.length - (rsB 1 (rsB 1 w)).length) w=rsB 1 (rsB 1 w):=by
  obtain ⟨t,ht⟩:=s2
  have hl:w.length - (rsB 1 (rsB 1 w)).length=t.length:=by
   have:=congrArg List.length ht
   rw [List.length_append] at this;omega
  rw [hl]
  conv=>lhs;rw [← ht]
  exact List.drop_left
 have hm0:Nat.beq (hdN (rsB 1 w)) 0=true:=by rw [hm];rfl
 have eS:xel w=⟨Nat.ble 1 w.length && Nat.ble 1 (rsB 1 w).length,rsB 1 (rsB 1 w),0,0,0,0,[],[]⟩:=by
  unfold xel;simp only [if_neg (show hdN w ≠ 1 by omega),if_pos (show hdN w=2 ∨ hdN w=3 by omega),hm];rfl
 have eK:(xel w).k=(Nat.ble 1 w.length && Nat.ble 1 (rsB 1 w).length):=by rw [eS]
 have eR:(xel w).r=rsB 1 (rsB 1 w):=by rw [eS]
 cases hk:(Nat.ble 1 w.length && Nat.ble 1 (rsB 1 w).length:Bool) with
 | false =>
  have no:xbu w=false:=by unfold xbu;rw [eK,hk];rfl
  refine ⟨fun h=>(by rw [no] at h;cases h),fun _=>?_⟩
  have key:=Pa_fttt w.length (ofBytes w)
  iterate 9
   replace key:=key (by
    (try simp only [PL,ZL,zC,zV,xab,f0,t1,f1,t2,f2,dr,o1,o2,hm0,hk])
    first
     | done
     | with_reducible rfl
     | (rw [xbq];exact decide_eq_true (by omega))
     | (rw [xbn];exact decide_eq_true (by omega))
     | (rw [xax];exact decide_eq_true (by simp only [Int.ofNat_eq_natCast];omega)))
  obtain ⟨h',h,hb⟩:=key
  simp only [PL,ZL,zC,zV,xab,f0,t1,f1,t2,f2,dr,o1,o2,hm0,List.map_cons,List.map_nil] at h hb
  injection hb with g0 _
  exact ⟨60,_,h',[],h,rfl,rfl,g0⟩
 | true =>
 by_cases hr:(rsB 1 (rsB 1 w)).length=0
 case neg =>
  have no:xbu w=false:=by unfold xbu;rw [eR,show Nat.beq (rsB 1 (rsB 1 w)).length 0=false by rw [xbn];exact decide_eq_false hr,Bool.false_and,Bool.and_false]
  have l0:xak (Int.ofNat 0) (Int.ofNat (rsB 1 (rsB 1 w)).length)=true:=by rw [xat];exact decide_eq_true (Int.ofNat_lt.2 (Nat.pos_of_ne_zero hr))
  refine ⟨fun h=>(by rw [no] at h;cases h),fun _=>?_⟩
  have key:=Pa_fttft w.length (ofBytes w)
  iterate 10
   replace key:=key (by
    (try simp only [PL,ZL,zC,zV,xab,f0,t1,f1,t2,f2,dr,o1,o2,hm0,hk,l0])
    first
     | done
     | with_reducible rfl
     | (rw [xbq];exact decide_eq_true (by omega))
     | (rw [xbn];exact decide_eq_true (by omega))
     | (rw [xax];exact decide_eq_true (by simp only [Int.ofNat_eq_natCast];omega)))
  obtain ⟨h',h,hb⟩:=key
  simp only [PL,ZL,zC,zV,xab,f0,t1,f1,t2,f2,dr,o1,o2,hm0,List.map_cons,List.map_nil] at h hb
  injection hb with g0 _
  exact ⟨60,_,h',[],h,rfl,rfl,g0⟩
 have l0:xak (Int.ofNat 0) (Int.ofNat (rsB 1 (rsB 1 w)).length)=false:=by rw [xat,hr];rfl
 have eP:xqk w=xbi (Int.ofNat (hdN w)) (Int.ofNat 0) (Int.ofNat 0) (Int.ofNat 0) (Int.ofNat 0) 0 0 []:=by unfold xqk;rw [eS];rfl
 have eO:xbu w=xbi (Int.ofNat (hdN w)) (Int.ofNat 0) (Int.ofNat 0) (Int.ofNat 0) (Int.ofNat 0) 0 0 []:=by unfold xbu;rw [eK,eR,hk,hr,eP];rfl
 cases hq:(xbi (Int.ofNat (hdN w)) (Int.ofNat 0) (Int.ofNat 0) (Int.ofNat 0) (Int.ofNat 0) 0 0 []) with
 | false =>
  refine ⟨fun h=>(by rw [eO,hq] at h;cases h),fun _=>?_⟩
  have key:=Pa_fttfft w.length (ofBytes w)
  iterate 11
   replace key:=key (by
    (try simp only [PL,ZL,zC,zV,xab,f0,t1,f1,t2,f2,dr,o1,o2,hm0,hk,l0,hq])
    first
     | done
     | with_reducible rfl
     | (rw [xbq];exact decide_eq_true (by omega))
     | (rw [xbn];exact decide_eq_true (by omega))
     | (rw [xax];exact decide_eq_true (by simp only [Int.ofNat_eq_natCast];omega)))
  obtain ⟨h',h,hb⟩:=key
  simp only [PL,ZL,zC,zV,xab,f0,t1,f1,t2,f2,dr,o1,o2,hm0,List.map_cons,List.map_nil] at h hb
  injection hb with g0 _
  exact ⟨60,_,h',[],h,rfl,rfl,g0⟩
 | true =>
  refine ⟨fun _=>?_,fun h=>(by rw [eO,hq] at h;cases h)⟩
  have ev:(VGd w)=(AV.tuple [.agg [.int .u8 (Int.ofNat (hdN w)), .int .u8 (Int.ofNat 0), .int .u8 (Int.ofNat 0), .int .u32 (Int.ofNat 0), .int .u8 (Int.ofNat 0), .fsl true 0 [], .fsl true 0 []], .int .i64 (Int.ofNat 0)]):=by unfold VGd xmc qPl qFi qCt qA qD;rw [eS];rfl
  rw [ev]
  have key:=Pa_fttfff w.length (ofBytes w)
  iterate 11
   replace key:=key (by
    (try simp only [PL,ZL,zC,zV,xab,f0,t1,f1,t2,f2,dr,o1,o2,hm0,hk,l0,hq])
    first
     | done
     | with_reducible rfl
     | (rw [xbq];exact decide_eq_true (by omega))
     | (rw [xbn];exact decide_eq_true (by omega))
     | (rw [xax];exact decide_eq_true (by simp only [Int.ofNat_eq_natCast];omega)))
  obtain ⟨h',h,hb⟩:=key
  simp only [PL,ZL,zC,zV,xab,f0,t1,f1,t2,f2,dr,o1,o2,hm0,List.map_cons,List.map_nil] at h hb
  injection hb with g0 _
  exact ⟨60,_,h',[],h,rfl,rfl,g0⟩
set_option maxHeartbeats 4000000 in
theorem par_2m (w:List UInt8) (hN:w.length ≤ 100000) (ho:hdN w=2) (hm:hdN (rsB 1 w) ≠ 0):(xbu w=true → xrw w (VGd w))∧(xbu w=false → xrw w VBd):=by
 have f0:seg w 0 w.length=w:=by unfold seg;rw [List.drop_zero,List.take_of_length_le (Nat.le_refl _)]
 have s1:rsB 1 w <:+ w:=xdg 1 w
 have t1:=xdy 1 (List.suffix_refl w) rfl (off:=0) (by omega)
 have f1:=xdk s1
 have n1:=s1.length_le
 have o1:xae (Int.ofNat (hdN w)) (Int.ofNat 1)=false:=by rw [xaz];exact beq_eq_false_iff_ne.2 (fun h=>by simp only [Int.ofNat_eq_natCast] at h;omega)
 have o2:xae (Int.ofNat (hdN w)) (Int.ofNat 2)=true:=by rw [ho];rfl
 have s2:=(xdg 1 (rsB 1 w)).trans s1
 have t2:=xdy 1 s1 rfl (off:=w.length - (rsB 1 w).length) (by omega)
 have f2:=xdk s2
 have n2:=s2.length_le
 have dr:List.drop (w.length - (rsB 1 (rsB 1 w)).length) w=rsB 1 (rsB 1 w):=by
  obtain ⟨t,ht⟩:=s2
  have hl:w.length - (rsB 1 (rsB 1 w)).length=t.length:=by
   have:=congrArg List.length ht
   rw [List.length_append] at this;omega
  rw [hl]
  conv=>lhs;rw [← ht]
  exact List.drop_left
 have hm0:Nat.beq (hdN (rsB 1 w)) 0=false:=by rw [xbn];exact decide_eq_false hm
 have mb:=xkd (rsB 1 w)
 have la:(pA (Int.ofNat (hdN w)) (rsB 1 (rsB 1 w)) (Nat.ble 1 w.length && Nat.ble 1 (rsB 1 w).length) (hdN (rsB 1 w))).length=hdN (rsB 1 w):=xgv _ _ _ _
 have rca:xan (xbs .u32 (pA (Int.ofNat (hdN w)) (rsB 1 (rsB 1 w)) (Nat.ble 1 w.length && Nat.ble 1 (rsB 1 w).length) (hdN (rsB 1 w)))) 0 (hdN (rsB 1 w))=xbs .u32 (pA (Int.ofNat (hdN w)) (rsB 1 (rsB 1 w)) (Nat.ble 1 w.length && Nat.ble 1 (rsB 1 w).length) (hdN (rsB 1 w))):=xdc _ _ (by rw [xag,la])
 have hi2:Int.ofNat (hdN w)=2:=by rw [ho];rfl
 have ld:(pD (Int.ofNat (hdN w)) (rsB 1 (rsB 1 w)) (Nat.ble 1 w.length && Nat.ble 1 (rsB 1 w).length) (hdN (rsB 1 w))).length=hdN (rsB 1 w):=by rw [hi2];exact xro _ _ _
 have rcd:xan (enD (pD (Int.ofNat (hdN w)) (rsB 1 (rsB 1 w)) (Nat.ble 1 w.length && Nat.ble 1 (rsB 1 w).length) (hdN (rsB 1 w)))) 0 (hdN (rsB 1 w))=enD (pD (Int.ofNat (hdN w)) (rsB 1 (rsB 1 w)) (Nat.ble 1 w.length && Nat.ble 1 (rsB 1 w).length) (hdN (rsB 1 w))):=xdc _ _ (by rw [xhl,ld])
 have eS:xel w=⟨pK (Int.ofNat (hdN w)) (rsB 1 (rsB 1 w)) (Nat.ble 1 w.length && Nat.ble 1 (rsB 1 w).length) (hdN (rsB 1 w)),pR (Int.ofNat (hdN w)) (rsB 1 (rsB 1 w)) (Nat.ble 1 w.length && Nat.ble 1 (rsB 1 w).length) (hdN (rsB 1 w)),0,0,0,0,pA (Int.ofNat (hdN w)) (rsB 1 (rsB 1 w)) (Nat.ble 1 w.length && Nat.ble 1 (rsB 1 w).length) (hdN (rsB 1 w)),pD (Int.ofNat (hdN w)) (rsB 1 (rsB 1 w)) (Nat.ble 1 w.length && Nat.ble 1 (rsB 1 w).length) (hdN (rsB 1 w))⟩:=by unfold xel;simp only [if_neg (show hdN w ≠ 1 by omega),if_pos (show hdN w=2 ∨ hdN w=3 by omega)]
 have eK:(xel w).k=(pK (Int.ofNat (hdN w)) (rsB 1 (rsB 1 w)) (Nat.ble 1 w.length && Nat.ble 1 (rsB 1 w).length) (hdN (rsB 1 w))):=by rw [eS]
 have eR:(xel w).r=pR (Int.ofNat (hdN w)) (rsB 1 (rsB 1 w)) (Nat.ble 1 w.length && Nat.ble 1 (rsB 1 w).length) (hdN (rsB 1 w)):=by rw [eS]
 cases hk:(pK (Int.ofNat (hdN w)) (rsB 1 (rsB 1 w)) (Nat.ble 1 w.length && Nat.ble 1 (rsB 1 w).length) (hdN (rsB 1 w)):Bool) with
 | false =>
  have no:xbu w=false:=by unfold xbu;rw [eK,hk];rfl
  refine ⟨fun h=>(by rw [no] at h;cases h),fun _=>?_⟩
  have key:=Pa_ftftt w.length (ofBytes w)
  iterate 15
   replace key:=key (by
    (try simp only [PL,ZL,zC,zV,xab,f0,t1,f1,t2,f2,dr,o1,o2,hm0,Nat.zero_add,Nat.mul_one,rca,rcd,hk])
    first
     | done
     | with_reducible rfl
     | (rw [xbq];exact decide_eq_true (by omega))
     | (rw [xbn];exact decide_eq_true (by omega))
     | (rw [xax];exact decide_eq_true (by simp only [Int.ofNat_eq_natCast];omega)))
  obtain ⟨h',h,hb⟩:=key
  simp only [PL,ZL,zC,zV,xab,f0,t1,f1,t2,f2,dr,o1,o2,hm0,Nat.zero_add,Nat.mul_one,rca,rcd,List.map_cons,List.map_nil] at h hb
  injection hb with g0 _
  exact ⟨60,_,h',[],h,rfl,rfl,g0⟩
 | true =>
 by_cases hr:(pR (Int.ofNat (hdN w)) (rsB 1 (rsB 1 w)) (Nat.ble 1 w.length && Nat.ble 1 (rsB 1 w).length) (hdN (rsB 1 w))).length=0
 case neg =>
  have no:xbu w=false:=by unfold xbu;rw [eR,show Nat.beq (pR (Int.ofNat (hdN w)) (rsB 1 (rsB 1 w)) (Nat.ble 1 w.length && Nat.ble 1 (rsB 1 w).length) (hdN (rsB 1 w))).length 0=false by rw [xbn];exact decide_eq_false hr,Bool.false_and,Bool.and_false]
  have l0:xak (Int.ofNat 0) (Int.ofNat (pR (Int.ofNat (hdN w)) (rsB 1 (rsB 1 w)) (Nat.ble 1 w.length && Nat.ble 1 (rsB 1 w).length) (hdN (rsB 1 w))).length)=true:=by rw [xat];exact decide_eq_true (Int.ofNat_lt.2 (Nat.pos_of_ne_zero hr))
  refine ⟨fun h=>(by rw [no] at h;cases h),fun _=>?_⟩
  have key:=Pa_ftftft w.length (ofBytes w)
  iterate 16
   replace key:=key (by
    (try simp only [PL,ZL,zC,zV,xab,f0,t1,f1,t2,f2,dr,o1,o2,hm0,Nat.zero_add,Nat.mul_one,rca,rcd,hk,l0])
    first
     | done
     | with_reducible rfl
     | (rw [xbq];exact decide_eq_true (by omega))
     | (rw [xbn];exact decide_eq_true (by omega))
     | (rw [xax];exact decide_eq_true (by simp only [Int.ofNat_eq_natCast];omega)))
  obtain ⟨h',h,hb⟩:=key
  simp only [PL,ZL,zC,zV,xab,f0,t1,f1,t2,f2,dr,o1,o2,hm0,Nat.zero_add,Nat.mul_one,rca,rcd,List.map_cons,List.map_nil] at h hb
  injection hb with g0 _
  exact ⟨60,_,h',[],h,rfl,rfl,g0⟩
 have l0:xak (Int.ofNat 0) (Int.ofNat (pR (Int.ofNat (hdN w)) (rsB 1 (rsB 1 w)) (Nat.ble 1 w.length && Nat.ble 1 (rsB 1 w).length) (hdN (rsB 1 w))).length)=false:=by rw [xat,hr];rfl
 have eP:xqk w=xbi (Int.ofNat (hdN w)) (Int.ofNat 0) (Int.ofNat 0) (Int.ofNat 0) (Int.ofNat 0) (hdN (rsB 1 w)) (hdN (rsB 1 w)) (enD (pD (Int.ofNat (hdN w)) (rsB 1 (rsB 1 w)) (Nat.ble 1 w.length && Nat.ble 1 (rsB 1 w).length) (hdN (rsB 1 w)))):=by unfold xqk;rw [eS];simp only;rw [la,ld]
 have eO:xbu w=xbi (Int.ofNat (hdN w)) (Int.ofNat 0) (Int.ofNat 0) (Int.ofNat 0) (Int.ofNat 0) (hdN (rsB 1 w)) (hdN (rsB 1 w)) (enD (pD (Int.ofNat (hdN w)) (rsB 1 (rsB 1 w)) (Nat.ble 1 w.length && Nat.ble 1 (rsB 1 w).length) (hdN (rsB 1 w)))):=by unfold xbu;rw [eK,eR,hk,hr,eP];rfl
 cases hq:(xbi (Int.ofNat (hdN w)) (Int.ofNat 0) (Int.ofNat 0) (Int.ofNat 0) (Int.ofNat 0) (hdN (rsB 1 w)) (hdN (rsB 1 w)) (enD (pD (Int.ofNat (hdN w)) (rsB 1 (rsB 1 w)) (Nat.ble 1 w.length && Nat.ble 1 (rsB 1 w).length) (hdN (rsB 1 w))))) with
 | false =>
  refine ⟨fun h=>(by rw [eO,hq] at h;cases h),fun _=>?_⟩
  have key:=Pa_ftftfft w.length (ofBytes w)
  iterate 22
   replace key:=key (by
    (try simp only [PL,ZL,zC,zV,xab,f0,t1,f1,t2,f2,dr,o1,o2,hm0,Nat.zero_add,Nat.mul_one,rca,rcd,hk,l0,hq])
    first
     | done
     | with_reducible rfl
     | (rw [xbq];exact decide_eq_true (by omega))
     | (rw [xbn];exact decide_eq_true (by omega))
     | (rw [xax];exact decide_eq_true (by simp only [Int.ofNat_eq_natCast];omega)))
  obtain ⟨h',h,hb⟩:=key
  simp only [PL,ZL,zC,zV,xab,f0,t1,f1,t2,f2,dr,o1,o2,hm0,Nat.zero_add,Nat.mul_one,rca,rcd,List.map_cons,List.map_nil] at h hb
  injection hb with g0 _
  exact ⟨60,_,h',[],h,rfl,rfl,g0⟩
 | true =>
  refine ⟨fun _=>?_,fun h=>(by rw [eO,hq] at h;cases h)⟩
  have ev:(VGd w)=(AV.tuple [.agg [.int .u8 (Int.ofNat (hdN w)), .int .u8 (Int.ofNat 0), .int .u8 (Int.ofNat 0), .int .u32 (Int.ofNat 0), .int .u8 (Int.ofNat 0), .fsl false (hdN (rsB 1 w)) (xbs .u32 (pA (Int.ofNat (hdN w)) (rsB 1 (rsB 1 w)) (Nat.ble 1 w.length && Nat.ble 1 (rsB 1 w).length) (hdN (rsB 1 w)))), .fsl false (hdN (rsB 1 w)) (enD (pD (Int.ofNat (hdN w)) (rsB 1 (rsB 1 w)) (Nat.ble 1 w.length && Nat.ble 1 (rsB 1 w).length) (hdN (rsB 1 w))))], .int .i64 (Int.ofNat 0)]):=by unfold VGd xmc qPl qFi qCt qA qD xgh;rw [eS];simp only;rw [la,ld,hm0]
  rw [ev]
  have key:=Pa_ftftfff w.length (ofBytes w)
  iterate 22
   replace key:=key (by
    (try simp only [PL,ZL,zC,zV,xab,f0,t1,f1,t2,f2,dr,o1,o2,hm0,Nat.zero_add,Nat.mul_one,rca,rcd,hk,l0,hq])
    first
     | done
     | with_reducible rfl
     | (rw [xbq];exact decide_eq_true (by omega))
     | (rw [xbn];exact decide_eq_true (by omega))
     | (rw [xax];exact decide_eq_true (by simp only [Int.ofNat_eq_natCast];omega)))
  obtain ⟨h',h,hb⟩:=key
  simp only [PL,ZL,zC,zV,xab,f0,t1,f1,t2,f2,dr,o1,o2,hm0,Nat.zero_add,Nat.mul_one,rca,rcd,List.map_cons,List.map_nil] at h hb
  injection hb with g0 hb;injection hb with g1 hb;injection hb with g2 _
  refine ⟨60,_,h',(true::(!xhe 4 [0])::Nat.ble (0+hdN (rsB 1 w)*xcc C10q 27) (hdN (rsB 1 w))::AV.plainL (xbs .u32 (pA (Int.ofNat (hdN w)) (rsB 1 (rsB 1 w)) (Nat.ble 1 w.length && Nat.ble 1 (rsB 1 w).length) (hdN (rsB 1 w))))::true::(!xhe 5 [0])::Nat.ble (0+hdN (rsB 1 w)*xcc C10q 36) (hdN (rsB 1 w))::AV.plainL (enD (pD (Int.ofNat (hdN w)) (rsB 1 (rsB 1 w)) (Nat.ble 1 w.length && Nat.ble 1 (rsB 1 w).length) (hdN (rsB 1 w))))::[]),h,?_,?_,g0⟩
  · simp only [zkQ,zS,zL,zk1,xdl,g1,g2]
    simp only [sz27,sz36,Nat.mul_one,List.nil_append,List.append_nil,List.cons_append]
    rw [xdc (xbs .u32 (pA (Int.ofNat (hdN w)) (rsB 1 (rsB 1 w)) (Nat.ble 1 w.length && Nat.ble 1 (rsB 1 w).length) (hdN (rsB 1 w)))) (hdN (rsB 1 w)) (by rw [xag,xgv]),xdc (enD (pD (Int.ofNat (hdN w)) (rsB 1 (rsB 1 w)) (Nat.ble 1 w.length && Nat.ble 1 (rsB 1 w).length) (hdN (rsB 1 w)))) (hdN (rsB 1 w)) (by rw [xhl];omega)]
  · simp only [sz27,sz36,Nat.mul_one,Nat.zero_add,xah,xaw,xfh,xbq,Nat.le_refl,decide_true,true_and];exact ⟨rfl,rfl,rfl⟩
set_option maxHeartbeats 4000000 in
theorem par_3z (w:List UInt8) (hN:w.length ≤ 100000) (ho:hdN w=3) (hm:hdN (rsB 1 w)=0):(xbu w=true → xrw w (VGd w))∧(xbu w=false → xrw w VBd):=by
 have f0:seg w 0 w.length=w:=by unfold seg;rw [List.drop_zero,List.take_of_length_le (Nat.le_refl _)]
 have s1:rsB 1 w <:+ w:=xdg 1 w
 have t1:=xdy 1 (List.suffix_refl w) rfl (off:=0) (by omega)
 have f1:=xdk s1
 have n1:=s1.length_le
 have o1:xae (Int.ofNat (hdN w)) (Int.ofNat 1)=false:=by rw [xaz];exact beq_eq_false_iff_ne.2 (fun h=>by simp only [Int.ofNat_eq_natCast] at h;omega)
 have o2:xae (Int.ofNat (hdN w)) (Int.ofNat 2)=false:=by rw [xaz];exact beq_eq_false_iff_ne.2 (fun h=>by simp only [Int.ofNat_eq_natCast] at h;omega)
 have o3:xae (Int.ofNat (hdN w)) (Int.ofNat 3)=true:=by rw [ho];rfl
 have s2:=(xdg 1 (rsB 1 w)).trans s1
 have t2:=xdy 1 s1 rfl (off:=w.length - (rsB 1 w).length) (by omega)
 have f2:=xdk s2
 have n2:=s2.length_le
 have dr:List.drop (w.length - (rsB 1 (rsB 1 w)).length) w=rsB 1 (rsB 1 w):=by
  obtain ⟨t,ht⟩:=s2
  have hl:w.length - (rsB 1 (rsB 1 w)).length=t.length:=by
   have:=congrArg List.length ht
   rw [List.length_append] at this;omega
  rw [hl]
  conv=>lhs;rw [← ht]
  exact List.drop_left
 have hm0:Nat.beq (hdN (rsB 1 w)) 0=true:=by rw [hm];rfl
 have eS:xel w=⟨Nat.ble 1 w.length && Nat.ble 1 (rsB 1 w).length,rsB 1 (rsB 1 w),0,0,0,0,[],[]⟩:=by
  unfold xel;simp only [if_neg (show hdN w ≠ 1 by omega),if_pos (show hdN w=2 ∨ hdN w=3 by omega),hm];rfl
 have eK:(xel w).k=(Nat.ble 1 w.length && Nat.ble 1 (rsB 1 w).length):=by rw [eS]
 have eR:(xel w).r=rsB 1 (rsB 1 w):=by rw [eS]
 cases hk:(Nat.ble 1 w.length && Nat.ble 1 (rsB 1 w).length:Bool) with
 | false =>
  have no:xbu w=false:=by unfold xbu;rw [eK,hk];rfl
  refine ⟨fun h=>(by rw [no] at h;cases h),fun _=>?_⟩
  have key:=Pa_ffttt w.length (ofBytes w)
  iterate 10
   replace key:=key (by
    (try simp only [PL,ZL,zC,zV,xab,f0,t1,f1,t2,f2,dr,o1,o2,o3,hm0,hk])
    first
     | done
     | with_reducible rfl
     | (rw [xbq];exact decide_eq_true (by omega))
     | (rw [xbn];exact decide_eq_true (by omega))
     | (rw [xax];exact decide_eq_true (by simp only [Int.ofNat_eq_natCast];omega)))
  obtain ⟨h',h,hb⟩:=key
  simp only [PL,ZL,zC,zV,xab,f0,t1,f1,t2,f2,dr,o1,o2,o3,hm0,List.map_cons,List.map_nil] at h hb
  injection hb with g0 _
  exact ⟨60,_,h',[],h,rfl,rfl,g0⟩
 | true =>
 by_cases hr:(rsB 1 (rsB 1 w)).length=0
 case neg =>
  have no:xbu w=false:=by unfold xbu;rw [eR,show Nat.beq (rsB 1 (rsB 1 w)).length 0=false by rw [xbn];exact decide_eq_false hr,Bool.false_and,Bool.and_false]
  have l0:xak (Int.ofNat 0) (Int.ofNat (rsB 1 (rsB 1 w)).length)=true:=by rw [xat];exact decide_eq_true (Int.ofNat_lt.2 (Nat.pos_of_ne_zero hr))
  refine ⟨fun h=>(by rw [no] at h;cases h),fun _=>?_⟩
  have key:=Pa_ffttft w.length (ofBytes w)
  iterate 11
   replace key:=key (by
    (try simp only [PL,ZL,zC,zV,xab,f0,t1,f1,t2,f2,dr,o1,o2,o3,hm0,hk,l0])
    first
     | done
     | with_reducible rfl
     | (rw [xbq];exact decide_eq_true (by omega))
     | (rw [xbn];exact decide_eq_true (by omega))
     | (rw [xax];exact decide_eq_true (by simp only [Int.ofNat_eq_natCast];omega)))
  obtain ⟨h',h,hb⟩:=key
  simp only [PL,ZL,zC,zV,xab,f0,t1,f1,t2,f2,dr,o1,o2,o3,hm0,List.map_cons,List.map_nil] at h hb
  injection hb with g0 _
  exact ⟨60,_,h',[],h,rfl,rfl,g0⟩
 have l0:xak (Int.ofNat 0) (Int.ofNat (rsB 1 (rsB 1 w)).length)=false:=by rw [xat,hr];rfl
 have eP:xqk w=xbi (Int.ofNat (hdN w)) (Int.ofNat 0) (Int.ofNat 0) (Int.ofNat 0) (Int.ofNat 0) 0 0 []:=by unfold xqk;rw [eS];rfl
 have eO:xbu w=xbi (Int.ofNat (hdN w)) (Int.ofNat 0) (Int.ofNat 0) (Int.ofNat 0) (Int.ofNat 0) 0 0 []:=by unfold xbu;rw [eK,eR,hk,hr,eP];rfl
 cases hq:(xbi (Int.ofNat (hdN w)) (Int.ofNat 0) (Int.ofNat 0) (Int.ofNat 0) (Int.ofNat 0) 0 0 []) with
 | false =>
  refine ⟨fun h=>(by rw [eO,hq] at h;cases h),fun _=>?_⟩
  have key:=Pa_ffttfft w.length (ofBytes w)
  iterate 12
   replace key:=key (by
    (try simp only [PL,ZL,zC,zV,xab,f0,t1,f1,t2,f2,dr,o1,o2,o3,hm0,hk,l0,hq])
    first
     | done
     | with_reducible rfl
     | (rw [xbq];exact decide_eq_true (by omega))
     | (rw [xbn];exact decide_eq_true (by omega))
     | (rw [xax];exact decide_eq_true (by simp only [Int.ofNat_eq_natCast];omega)))
  obtain ⟨h',h,hb⟩:=key
  simp only [PL,ZL,zC,zV,xab,f0,t1,f1,t2,f2,dr,o1,o2,o3,hm0,List.map_cons,List.map_nil] at h hb
  injection hb with g0 _
  exact ⟨60,_,h',[],h,rfl,rfl,g0⟩
 | true =>
  refine ⟨fun _=>?_,fun h=>(by rw [eO,hq] at h;cases h)⟩
  have ev:(VGd w)=(AV.tuple [.agg [.int .u8 (Int.ofNat (hdN w)), .int .u8 (Int.ofNat 0), .int .u8 (Int.ofNat 0), .int .u32 (Int.ofNat 0), .int .u8 (Int.ofNat 0), .fsl true 0 [], .fsl true 0 []], .int .i64 (Int.ofNat 0)]):=by unfold VGd xmc qPl qFi qCt qA qD;rw [eS];rfl
  rw [ev]
  have key:=Pa_ffttfff w.length (ofBytes w)
  iterate 12
   replace key:=key (by
    (try simp only [PL,ZL,zC,zV,xab,f0,t1,f1,t2,f2,dr,o1,o2,o3,hm0,hk,l0,hq])
    first
     | done
     | with_reducible rfl
     | (rw [xbq];exact decide_eq_true (by omega))
     | (rw [xbn];exact decide_eq_true (by omega))
     | (rw [xax];exact decide_eq_true (by simp only [Int.ofNat_eq_natCast];omega)))
  obtain ⟨h',h,hb⟩:=key
  simp only [PL,ZL,zC,zV,xab,f0,t1,f1,t2,f2,dr,o1,o2,o3,hm0,List.map_cons,List.map_nil] at h hb
  injection hb with g0 _
  exact ⟨60,_,h',[],h,rfl,rfl,g0⟩
set_option maxHeartbeats 4000000 in
theorem par_3m (w:List UInt8) (hN:w.length ≤ 100000) (ho:hdN w=3) (hm:hdN (rsB 1 w) ≠ 0):(xbu w=true → xrw w (VGd w))∧(xbu w=false → xrw w VBd):=by
 have f0:seg w 0 w.length=w:=by unfold seg;rw [List.drop_zero,List.take_of_length_le (Nat.le_refl _)]
 have s1:rsB 1 w <:+ w:=xdg 1 w
 have t1:=xdy 1 (List.suffix_refl w) rfl (off:=0) (by omega)
 have f1:=xdk s1
 have n1:=s1.length_le
 have o1:xae (Int.ofNat (hdN w)) (Int.ofNat 1)=false:=by rw [xaz];exact beq_eq_false_iff_ne.2 (fun h=>by simp only [Int.ofNat_eq_natCast] at h;omega)
 have o2:xae (Int.ofNat (hdN w)) (Int.ofNat 2)=false:=by rw [xaz];exact beq_eq_false_iff_ne.2 (fun h=>by simp only [Int.ofNat_eq_natCast] at h;omega)
 have o3:xae (Int.ofNat (hdN w)) (Int.ofNat 3)=true:=by rw [ho];rfl
 have s2:=(xdg 1 (rsB 1 w)).trans s1
 have t2:=xdy 1 s1 rfl (off:=w.length - (rsB 1 w).length) (by omega)
 have f2:=xdk s2
 have n2:=s2.length_le
 have dr:List.drop (w.length - (rsB 1 (rsB 1 w)).length) w=rsB 1 (rsB 1 w):=by
  obtain ⟨t,ht⟩:=s2
  have hl:w.length - (rsB 1 (rsB 1 w)).length=t.length:=by
   have:=congrArg List.length ht
   rw [List.length_append] at this;omega
  rw [hl]
  conv=>lhs;rw [← ht]
  exact List.drop_left
 have hm0:Nat.beq (hdN (rsB 1 w)) 0=false:=by rw [xbn];exact decide_eq_false hm
 have mb:=xkd (rsB 1 w)
 have la:(pA (Int.ofNat (hdN w)) (rsB 1 (rsB 1 w)) (Nat.ble 1 w.length && Nat.ble 1 (rsB 1 w).length) (hdN (rsB 1 w))).length=hdN (rsB 1 w):=xgv _ _ _ _
 have rca:xan (xbs .u32 (pA (Int.ofNat (hdN w)) (rsB 1 (rsB 1 w)) (Nat.ble 1 w.length && Nat.ble 1 (rsB 1 w).length) (hdN (rsB 1 w)))) 0 (hdN (rsB 1 w))=xbs .u32 (pA (Int.ofNat (hdN w)) (rsB 1 (rsB 1 w)) (Nat.ble 1 w.length && Nat.ble 1 (rsB 1 w).length) (hdN (rsB 1 w))):=xdc _ _ (by rw [xag,la])
 have ld:pD (Int.ofNat (hdN w)) (rsB 1 (rsB 1 w)) (Nat.ble 1 w.length && Nat.ble 1 (rsB 1 w).length) (hdN (rsB 1 w))=[]:=pD_nil (by rw [ho];decide) _ _ _
 have eS:xel w=⟨pK (Int.ofNat (hdN w)) (rsB 1 (rsB 1 w)) (Nat.ble 1 w.length && Nat.ble 1 (rsB 1 w).length) (hdN (rsB 1 w)),pR (Int.ofNat (hdN w)) (rsB 1 (rsB 1 w)) (Nat.ble 1 w.length && Nat.ble 1 (rsB 1 w).length) (hdN (rsB 1 w)),0,0,0,0,pA (Int.ofNat (hdN w)) (rsB 1 (rsB 1 w)) (Nat.ble 1 w.length && Nat.ble 1 (rsB 1 w).length) (hdN (rsB 1 w)),pD (Int.ofNat (hdN w)) (rsB 1 (rsB 1 w)) (Nat.ble 1 w.length && Nat.ble 1 (rsB 1 w).length) (hdN (rsB 1 w))⟩:=by unfold xel;simp only [if_neg (show hdN w ≠ 1 by omega),if_pos (show hdN w=2 ∨ hdN w=3 by omega)]
 have eK:(xel w).k=(pK (Int.ofNat (hdN w)) (rsB 1 (rsB 1 w)) (Nat.ble 1 w.length && Nat.ble 1 (rsB 1 w).length) (hdN (rsB 1 w))):=by rw [eS]
 have eR:(xel w).r=pR (Int.ofNat (hdN w)) (rsB 1 (rsB 1 w)) (Nat.ble 1 w.length && Nat.ble 1 (rsB 1 w).length) (hdN (rsB 1 w)):=by rw [eS]
 cases hk:(pK (Int.ofNat (hdN w)) (rsB 1 (rsB 1 w)) (Nat.ble 1 w.length && Nat.ble 1 (rsB 1 w).length) (hdN (rsB 1 w)):Bool) with
 | false =>
  have no:xbu w=false:=by unfold xbu;rw [eK,hk];rfl
  refine ⟨fun h=>(by rw [no] at h;cases h),fun _=>?_⟩
  have key:=Pa_fftfft w.length (ofBytes w)
  iterate 16
   replace key:=key (by
    (try simp only [PL,ZL,zC,zV,xab,f0,t1,f1,t2,f2,dr,o1,o2,o3,hm0,Nat.zero_add,Nat.mul_one,rca,hk])
    first
     | done
     | with_reducible rfl
     | (rw [xbq];exact decide_eq_true (by omega))
     | (rw [xbn];exact decide_eq_true (by omega))
     | (rw [xax];exact decide_eq_true (by simp only [Int.ofNat_eq_natCast];omega)))
  obtain ⟨h',h,hb⟩:=key
  simp only [PL,ZL,zC,zV,xab,f0,t1,f1,t2,f2,dr,o1,o2,o3,hm0,Nat.zero_add,Nat.mul_one,rca,List.map_cons,List.map_nil] at h hb
  injection hb with g0 _
  exact ⟨60,_,h',[],h,rfl,rfl,g0⟩
 | true =>
 by_cases hr:(pR (Int.ofNat (hdN w)) (rsB 1 (rsB 1 w)) (Nat.ble 1 w.length && Nat.ble 1 (rsB 1 w).length) (hdN (rsB 1 w))).length=0
 case neg =>
  have no:xbu w=false:=by unfold xbu;rw [eR,show Nat.beq (pR (Int.ofNat (hdN w)) (rsB 1 (rsB 1 w)) (Nat.ble 1 w.length && Nat.ble 1 (rsB 1 w).length) (hdN (rsB 1 w))).length 0=false by rw [xbn];exact decide_eq_false hr,Bool.false_and,Bool.and_false]
  have l0:xak (Int.ofNat 0) (Int.ofNat (pR (Int.ofNat (hdN w)) (rsB 1 (rsB 1 w)) (Nat.ble 1 w.length && Nat.ble 1 (rsB 1 w).length) (hdN (rsB 1 w))).length)=true:=by rw [xat];exact decide_eq_true (Int.ofNat_lt.2 (Nat.pos_of_ne_zero hr))
  refine ⟨fun h=>(by rw [no] at h;cases h),fun _=>?_⟩
  have key:=Pa_fftffft w.length (ofBytes w)
  iterate 17
   replace key:=key (by
    (try simp only [PL,ZL,zC,zV,xab,f0,t1,f1,t2,f2,dr,o1,o2,o3,hm0,Nat.zero_add,Nat.mul_one,rca,hk,l0])
    first
     | done
     | with_reducible rfl
     | (rw [xbq];exact decide_eq_true (by omega))
     | (rw [xbn];exact decide_eq_true (by omega))
     | (rw [xax];exact decide_eq_true (by simp only [Int.ofNat_eq_natCast];omega)))
  obtain ⟨h',h,hb⟩:=key
  simp only [PL,ZL,zC,zV,xab,f0,t1,f1,t2,f2,dr,o1,o2,o3,hm0,Nat.zero_add,Nat.mul_one,rca,List.map_cons,List.map_nil] at h hb
  injection hb with g0 _
  exact ⟨60,_,h',[],h,rfl,rfl,g0⟩
 have l0:xak (Int.ofNat 0) (Int.ofNat (pR (Int.ofNat (hdN w)) (rsB 1 (rsB 1 w)) (Nat.ble 1 w.length && Nat.ble 1 (rsB 1 w).length) (hdN (rsB 1 w))).length)=false:=by rw [xat,hr];rfl
 have eP:xqk w=xbi (Int.ofNat (hdN w)) (Int.ofNat 0) (Int.ofNat 0) (Int.ofNat 0) (Int.ofNat 0) (hdN (rsB 1 w)) 0 []:=by unfold xqk;rw [eS];simp only;rw [la,ld];rfl
 have eO:xbu w=xbi (Int.ofNat (hdN w)) (Int.ofNat 0) (Int.ofNat 0) (Int.ofNat 0) (Int.ofNat 0) (hdN (rsB 1 w)) 0 []:=by unfold xbu;rw [eK,eR,hk,hr,eP];rfl
 cases hq:(xbi (Int.ofNat (hdN w)) (Int.ofNat 0) (Int.ofNat 0) (Int.ofNat 0) (Int.ofNat 0) (hdN (rsB 1 w)) 0 []) with
 | false =>
  refine ⟨fun h=>(by rw [eO,hq] at h;cases h),fun _=>?_⟩
  have key:=Pa_fftfffft w.length (ofBytes w)
  iterate 20
   replace key:=key (by
    (try simp only [PL,ZL,zC,zV,xab,f0,t1,f1,t2,f2,dr,o1,o2,o3,hm0,Nat.zero_add,Nat.mul_one,rca,hk,l0,hq])
    first
     | done
     | with_reducible rfl
     | (rw [xbq];exact decide_eq_true (by omega))
     | (rw [xbn];exact decide_eq_true (by omega))
     | (rw [xax];exact decide_eq_true (by simp only [Int.ofNat_eq_natCast];omega)))
  obtain ⟨h',h,hb⟩:=key
  simp only [PL,ZL,zC,zV,xab,f0,t1,f1,t2,f2,dr,o1,o2,o3,hm0,Nat.zero_add,Nat.mul_one,rca,List.map_cons,List.map_nil] at h hb
  injection hb with g0 _
  exact ⟨60,_,h',[],h,rfl,rfl,g0⟩
 | true =>
  refine ⟨fun _=>?_,fun h=>(by rw [eO,hq] at h;cases h)⟩
  have ev:(VGd w)=(AV.tuple [.agg [.int .u8 (Int.ofNat (hdN w)), .int .u8 (Int.ofNat 0), .int .u8 (Int.ofNat 0), .int .u32 (Int.ofNat 0), .int .u8 (Int.ofNat 0), .fsl false (hdN (rsB 1 w)) (xbs .u32 (pA (Int.ofNat (hdN w)) (rsB 1 (rsB 1 w)) (Nat.ble 1 w.length && Nat.ble 1 (rsB 1 w).length) (hdN (rsB 1 w)))), .fsl true 0 []], .int .i64 (Int.ofNat 0)]):=by unfold VGd xmc qPl qFi qCt qA qD xgh;rw [eS];simp only;rw [la,ld,hm0];rfl
  rw [ev]
  have key:=Pa_fftfffff w.length (ofBytes w)
  iterate 20
   replace key:=key (by
    (try simp only [PL,ZL,zC,zV,xab,f0,t1,f1,t2,f2,dr,o1,o2,o3,hm0,Nat.zero_add,Nat.mul_one,rca,hk,l0,hq])
    first
     | done
     | with_reducible rfl
     | (rw [xbq];exact decide_eq_true (by omega))
     | (rw [xbn];exact decide_eq_true (by omega))
     | (rw [xax];exact decide_eq_true (by simp only [Int.ofNat_eq_natCast];omega)))
  obtain ⟨h',h,hb⟩:=key
  simp only [PL,ZL,zC,zV,xab,f0,t1,f1,t2,f2,dr,o1,o2,o3,hm0,Nat.zero_add,Nat.mul_one,rca,List.map_cons,List.map_nil] at h hb
  injection hb with g0 hb;injection hb with g1 _
  refine ⟨60,_,h',(true::(!xhe 4 [0])::Nat.ble (0+hdN (rsB 1 w)*xcc C10q 27) (hdN (rsB 1 w))::AV.plainL (xbs .u32 (pA (Int.ofNat (hdN w)) (rsB 1 (rsB 1 w)) (Nat.ble 1 w.length && Nat.ble 1 (rsB 1 w).length) (hdN (rsB 1 w))))::[]),h,?_,?_,g0⟩
  · simp only [zkQ,zS,zL,zk1,xdl,g1]
    simp only [sz27,Nat.mul_one,List.nil_append,List.append_nil,List.cons_append]
    rw [xdc (xbs .u32 (pA (Int.ofNat (hdN w)) (rsB 1 (rsB 1 w)) (Nat.ble 1 w.length && Nat.ble 1 (rsB 1 w).length) (hdN (rsB 1 w)))) (hdN (rsB 1 w)) (by rw [xag,xgv])]
  · simp only [sz27,Nat.mul_one,Nat.zero_add,xah,xaw,xbq,Nat.le_refl,decide_true,true_and];exact ⟨rfl,rfl⟩
end Go.Proofs.Ytecncappdnhbaaa
end
end

section
noncomputable section
namespace Go.Proofs.Ytecncappdnhbaaa
open Go.Ab.M Go.Ab Go
def paT:List AV × List Blk → Bool:=fun x=>match x with
 | ([.slice (some (0,0)) _ none],[.cells true 5 _ cs])=>kept (xbu (xap cs))
 | ([.slice (some (0,0)) 1 (some 1)],_)=>true
 | _=>false
def goodV (w:List UInt8):AV:=.tuple [.agg [.int .u8 (Int.ofNat (kept (hdN w))), .int .u8 (Int.ofNat (kept (xmc w))), .int .u8 (Int.ofNat (kept (qPl w))), .int .u32 (Int.ofNat (kept (qFi w))), .int .u8 (Int.ofNat (kept (qCt w))), .fsl (kept (xgh (qA w).length)) (kept (qA w).length) (kept (xbs .u32 (qA w))), .fsl (kept (xgh (qD w).length)) (kept (qD w).length) (kept (enD (qD w)))], .int .i64 (Int.ofNat 0)]
def badV:AV:=.tuple [.agg [.int .u8 (Int.ofNat 0), .int .u8 (Int.ofNat 0), .int .u8 (Int.ofNat 0), .int .u32 (Int.ofNat 0), .int .u8 (Int.ofNat 0), .fsl true 0 [], .fsl true 0 []], .int .i64 (Int.ofNat 3)]
def paG:List AV × List Blk → Option (List Bool × AV × List Blk):=fun x=>match x with
 | ([.slice (some (0,0)) n none],[.cells true 5 N cs])=>some ([u8L cs,Nat.beq cs.length N,Nat.beq n N,Nat.ble N 100000,xbu (xap cs)],
  .tuple [.agg [.int .u8 (Int.ofNat (kept (hdN (xap cs)))), .int .u8 (Int.ofNat (kept (xmc (xap cs)))), .int .u8 (Int.ofNat (kept (qPl (xap cs)))), .int .u32 (Int.ofNat (kept (qFi (xap cs)))), .int .u8 (Int.ofNat (kept (qCt (xap cs)))), .fsl (kept (xgh (qA (xap cs)).length)) (kept (qA (xap cs)).length) (kept (xbs .u32 (qA (xap cs)))), .fsl (kept (xgh (qD (xap cs)).length)) (kept (qD (xap cs)).length) (kept (enD (qD (xap cs))))], .int .i64 (Int.ofNat 0)],
  [.cells true 5 N cs])
 | ([.slice (some (0,0)) 1 (some 1)],[.cells true 5 1 [.int .u8 (.ofNat 4)]])=>some ([], .tuple [.agg [.int .u8 (Int.ofNat 4), .int .u8 (Int.ofNat 0), .int .u8 (Int.ofNat 0), .int .u32 (Int.ofNat 0), .int .u8 (Int.ofNat 0), .fsl true 0 [], .fsl true 0 []], .int .i64 (Int.ofNat 0)],[.cells true 5 1 [.int .u8 (Int.ofNat 4)]])
 | _=>none
def paB:List AV × List Blk → Option (List Bool × AV × List Blk):=fun x=>match x with
 | ([.slice (some (0,0)) n none],[.cells true 5 N cs])=>some ([u8L cs,Nat.beq cs.length N,Nat.beq n N,Nat.ble N 100000,!xbu (xap cs)],
  .tuple [.agg [.int .u8 (Int.ofNat 0), .int .u8 (Int.ofNat 0), .int .u8 (Int.ofNat 0), .int .u32 (Int.ofNat 0), .int .u8 (Int.ofNat 0), .fsl true 0 [], .fsl true 0 []], .int .i64 (Int.ofNat 3)],[.cells true 5 N cs])
 | ([.slice (some (0,0)) 0 (some 0)],[.cells true 5 0 []])=>some ([], .tuple [.agg [.int .u8 (Int.ofNat 0), .int .u8 (Int.ofNat 0), .int .u8 (Int.ofNat 0), .int .u32 (Int.ofNat 0), .int .u8 (Int.ofNat 0), .fsl true 0 [], .fsl true 0 []], .int .i64 (Int.ofNat 3)],[.cells true 5 0 []])
 | _=>none
def parZ:ZT:=⟨[], .node paT (.leaf paG) (.leaf paB)⟩
theorem par_all (w:List UInt8) (hN:w.length ≤ 100000):(xbu w=true → xrw w (goodV w))∧(xbu w=false → xrw w badV):=by
 have eg:goodV w=.tuple [.agg [.int .u8 (Int.ofNat (hdN w)), .int .u8 (Int.ofNat (xmc w)), .int .u8 (Int.ofNat (qPl w)), .int .u32 (Int.ofNat (qFi w)), .int .u8 (Int.ofNat (qCt w)), .fsl (xgh (qA w).length) (qA w).length (xbs .u32 (qA w)), .fsl (xgh (qD w).length) (qD w).length (enD (qD w))], .int .i64 (Int.ofNat 0)]:=by
  unfold goodV;simp only [xab]
 rw [eg]
 by_cases h1:hdN w=1
 · exact par_1 w hN h1
 by_cases h2:hdN w=2
 · by_cases hm:hdN (rsB 1 w)=0
   · exact par_2z w hN h2 hm
   · exact par_2m w hN h2 hm
 by_cases h3:hdN w=3
 · by_cases hm:hdN (rsB 1 w)=0
   · exact par_3z w hN h3 hm
   · exact par_3m w hN h3 hm
 by_cases h5:hdN w=5
 · exact par_5 w hN h5
 by_cases h6:hdN w=6
 · exact par_6 w hN h6
 by_cases h7:hdN w=7
 · exact par_7 w hN h7
 exact par_0 w hN ⟨h1,h2,h3,h5,h6,h7⟩
theorem okg_of {us:List AV} {n:Nat} {cs:List AV} {v:AV} {bs':List Blk} (hp:AV.plainL cs=true) (hb:bs'=[.cells true 5 n cs])
 (h:∃ (f:Nat) (v0:AV) (h':xas) (c2:List Bool),xbl C10q f (.fn 60) us (mkL [.cells true 5 n cs])=some (v0,h')∧zkQ (xcc C10q) [0] h' v0=some (c2,v)∧xav c2=true∧h'.get 0=.cells true 5 n cs) :
 ∃ (f:Nat) (v0:AV) (h':xas) (ks:List Nat) (c2:List Bool),xbl C10q f (.fn 60) us (mkL [.cells true 5 n cs])=some (v0,h')∧nodupB ks=true∧(∀ j,j < 1 → ks[j]? = some j) ∧
 zkQ (xcc C10q) ks h' v0=some (c2,v)∧xav c2=true∧(∀ j ∈ ks,(h'.get j).writes=true) ∧
 bs'=xio (fun b=>(h'.get b).q (xbz tys) [] fun b=>Go.Ab.idxN b ks) ks∧xav (xea (fun b=>(h'.get b).c (xbz tys) [] fun b=>xhe b ks) ks)=true:=by
 obtain ⟨f,v0,h',c2,h1,h2,h3,g0⟩:=h
 refine ⟨f,v0,h',[0],c2,h1,rfl,fun j hj=>?_,h2,h3,fun j hj=>?_,?_,?_⟩
 · have:j=0:=by omega
   subst this;rfl
 · have:j=0:=by simpa using hj
   subst this;rw [g0];rfl
 · subst hb
   show _=[(h'.get 0).q _ _ _]
   rw [g0];rfl
 · show xav ((h'.get 0).c _ _ _++[])=true
   rw [g0]
   show xav ((true::[AV.plainL cs])++[])=true
   rw [hp];rfl
theorem Pc_4 (h0:(xae (Int.ofNat (kept (hdN (seg (xap [AV.int IntKind.u8 (Int.ofNat 4)]) 0 1)))) (Int.ofNat 1))=false) (h1:(xae (Int.ofNat (kept (hdN (seg (xap [AV.int IntKind.u8 (Int.ofNat 4)]) 0 1)))) (Int.ofNat 2))=false) (h2:(xae (Int.ofNat (kept (hdN (seg (xap [AV.int IntKind.u8 (Int.ofNat 4)]) 0 1)))) (Int.ofNat 3))=false) (h3:(xae (Int.ofNat (kept (hdN (seg (xap [AV.int IntKind.u8 (Int.ofNat 4)]) 0 1)))) (Int.ofNat 5))=false) (h4:(xae (Int.ofNat (kept (hdN (seg (xap [AV.int IntKind.u8 (Int.ofNat 4)]) 0 1)))) (Int.ofNat 6))=false) (h5:(xae (Int.ofNat (kept (hdN (seg (xap [AV.int IntKind.u8 (Int.ofNat 4)]) 0 1)))) (Int.ofNat 7))=false) (h6:(!(AV.bool (kept true)).boolOf)=false) (h7:(xak (Int.ofNat 0) (Int.ofNat (kept (tkL 1 1))))=false) (h8:(!kept (xbi (Int.ofNat (kept (hdN (seg (xap [AV.int IntKind.u8 (Int.ofNat 4)]) 0 1)))) (Int.ofNat 0) (Int.ofNat 0) (Int.ofNat 0) (Int.ofNat 0) 0 0 []))=false) :
 ∃ h',xbl C10q 60 (Tgt.fn 60) [.slice (some (0,0)) 1 (some 1)] (mkL [.cells true 5 1 [.int .u8 (Int.ofNat 4)]])=some (AV.tuple [.agg [.int .u8 (Int.ofNat (kept (hdN (seg (xap [.int .u8 (Int.ofNat 4)]) 0 1)))), .int .u8 (Int.ofNat 0), .int .u8 (Int.ofNat 0), .int .u32 (Int.ofNat 0), .int .u8 (Int.ofNat 0), .slice none 0 (some 0), .slice none 0 (some 0)], .int .i64 (Int.ofNat 0)],h')∧[0].map h'.get=[.cells true 5 1 [.int .u8 (Int.ofNat 4)]] :=
 xaa (q:=qNs [36,1,1,1,1,1,1,5,1,1,1,1,5,1,1,1,1,17,1,10,1,1,1,35]) (c:=(cnF::cnF::cnF::cnF::cnF::cnF::cnF::cnF::cnF::cnF::cnF::cnF::cnF::cnF::cnF::cnF::cnF::cnF::[])) (by kernel_rfl) ⟨h0,h1,h2,h3,h4,h5,h6,h6,h6,h6,h6,h6,h6,h7,h7,h7,h7,h8,trivial⟩
theorem Pc_0 (h0:(xae (Int.ofNat (kept (hdN (seg (xap []) 0 0)))) (Int.ofNat 1))=false) (h1:(xae (Int.ofNat (kept (hdN (seg (xap []) 0 0)))) (Int.ofNat 2))=false) (h2:(xae (Int.ofNat (kept (hdN (seg (xap []) 0 0)))) (Int.ofNat 3))=false) (h3:(xae (Int.ofNat (kept (hdN (seg (xap []) 0 0)))) (Int.ofNat 5))=false) (h4:(xae (Int.ofNat (kept (hdN (seg (xap []) 0 0)))) (Int.ofNat 6))=false) (h5:(xae (Int.ofNat (kept (hdN (seg (xap []) 0 0)))) (Int.ofNat 7))=false) (h6:(!(AV.bool (kept false)).boolOf)=true) :
 ∃ h',xbl C10q 60 (Tgt.fn 60) [.slice (some (0,0)) 0 (some 0)] (mkL [.cells true 5 0 []])=some (AV.tuple [.agg [.int .u8 (Int.ofNat 0), .int .u8 (Int.ofNat 0), .int .u8 (Int.ofNat 0), .int .u32 (Int.ofNat 0), .int .u8 (Int.ofNat 0), .slice none 0 (some 0), .slice none 0 (some 0)], .int .i64 (Int.ofNat 3)],h')∧[0].map h'.get=[.cells true 5 0 []] :=
 xaa (q:=qNs [36,1,1,1,1,1,1,5,0,0,0,0,0,0,0,25]) (c:=(cnF::cnF::cnF::cnF::cnF::cnF::cnT::cnT::cnT::cnT::cnT::cnT::cnT::[])) (by kernel_rfl) ⟨h0,h1,h2,h3,h4,h5,h6,h6,h6,h6,h6,h6,h6,trivial⟩
theorem par_c4:∃ h',xbl C10q 60 (.fn 60) [.slice (some (0,0)) 1 (some 1)] (mkL [.cells true 5 1 [.int .u8 (Int.ofNat 4)]])=some (.tuple [.agg [.int .u8 (Int.ofNat 4), .int .u8 (Int.ofNat 0), .int .u8 (Int.ofNat 0), .int .u32 (Int.ofNat 0), .int .u8 (Int.ofNat 0), .slice none 0 (some 0), .slice none 0 (some 0)], .int .i64 (Int.ofNat 0)],h')∧h'.get 0=.cells true 5 1 [.int .u8 (Int.ofNat 4)]:=by
 have e4:hdN (seg (xap [AV.int IntKind.u8 (Int.ofNat 4)]) 0 1)=4:=by
  rw [show [AV.int IntKind.u8 (Int.ofNat 4)]=ofBytes [4] from rfl,xal];rfl
 obtain ⟨h',h,hb⟩:=Pc_4 (by rw [xab,e4];rfl) (by rw [xab,e4];rfl) (by rw [xab,e4];rfl) (by rw [xab,e4];rfl) (by rw [xab,e4];rfl) (by rw [xab,e4];rfl) (by rw [xab];rfl) (by rw [xab];rfl) (by
  rw [xab,xab,e4,rightB_so (by decide)];rfl)
 rw [xab,e4] at h
 injection hb with g0 _
 exact ⟨h',h,g0⟩
theorem par_c0:∃ h',xbl C10q 60 (.fn 60) [.slice (some (0,0)) 0 (some 0)] (mkL [.cells true 5 0 []])=some (.tuple [.agg [.int .u8 (Int.ofNat 0), .int .u8 (Int.ofNat 0), .int .u8 (Int.ofNat 0), .int .u32 (Int.ofNat 0), .int .u8 (Int.ofNat 0), .slice none 0 (some 0), .slice none 0 (some 0)], .int .i64 (Int.ofNat 3)],h')∧h'.get 0=.cells true 5 0 []:=by
 have e4:hdN (seg (xap []) 0 0)=0:=rfl
 obtain ⟨h',h,hb⟩:=Pc_0 (by rw [xab,e4];rfl) (by rw [xab,e4];rfl) (by rw [xab,e4];rfl) (by rw [xab,e4];rfl) (by rw [xab,e4];rfl) (by rw [xab,e4];rfl) (by rw [xab];rfl)
 injection hb with g0 _
 exact ⟨h',h,g0⟩
theorem paG_ok:xdm.Sound Try.prog tys (xbz tys) 60 ⟨[],fun us bs=>paG (us,bs)⟩:=by
 refine xdm.soundGZ (cxZ xbd) all10q (fun us bs c v bs' hm hc hin=>?_)
 have hm:paG (us,bs)=some (c,v,bs'):=hm
 unfold paG at hm
 split at hm
 · rename_i n N cs he
   injection he with he1 he2
   subst he1;subst he2
   injection hm with hm;injection hm with e1 hm;injection hm with e2 e3
   simp only [xah,← e1] at hc
   obtain ⟨c1,c2,c3,c4,c5,_⟩:=hc
   obtain ⟨w,rfl⟩:=xdr.1 c1
   have c2:=xaj c2
   have c3:=xaj c3
   rw [xad] at c2
   subst c3;subst c2
   rw [xal] at c5 e2
   have:=(par_all w (Nat.le_of_ble_eq_true c4)).1 c5
   rw [← e2]
   exact okg_of (xao _) e3.symm this
 · rename_i he
   injection he with he1 he2
   subst he1;subst he2
   injection hm with hm;injection hm with e1 hm;injection hm with e2 e3
   rw [← e2]
   obtain ⟨h',h,g0⟩:=par_c4
   exact okg_of rfl e3.symm ⟨60,_,h',_,h,rfl,rfl,g0⟩
 · cases hm
theorem paB_ok:xdm.Sound Try.prog tys (xbz tys) 60 ⟨[],fun us bs=>paB (us,bs)⟩:=by
 refine xdm.soundGZ (cxZ xbd) all10q (fun us bs c v bs' hm hc hin=>?_)
 have hm:paB (us,bs)=some (c,v,bs'):=hm
 unfold paB at hm
 split at hm
 · rename_i n N cs he
   injection he with he1 he2
   subst he1;subst he2
   injection hm with hm;injection hm with e1 hm;injection hm with e2 e3
   simp only [xah,← e1] at hc
   obtain ⟨c1,c2,c3,c4,c5,_⟩:=hc
   obtain ⟨w,rfl⟩:=xdr.1 c1
   have c2:=xaj c2
   have c3:=xaj c3
   rw [xad] at c2
   subst c3;subst c2
   rw [xal] at c5
   have:=(par_all w (Nat.le_of_ble_eq_true c4)).2 (by simpa using c5)
   rw [← e2]
   exact okg_of (xao _) e3.symm this
 · rename_i he
   injection he with he1 he2
   subst he1;subst he2
   injection hm with hm;injection hm with e1 hm;injection hm with e2 e3
   rw [← e2]
   obtain ⟨h',h,g0⟩:=par_c0
   exact okg_of rfl e3.symm ⟨60,_,h',_,h,rfl,rfl,g0⟩
 · cases hm
end Go.Proofs.Ytecncappdnhbaaa
end
end

section
noncomputable section
namespace Go.Ab
open M
theorem xtw (l r:List UInt8) (n:Nat) (h:l.length=n):tkB n (l++r)=l:=by
 unfold tkB;rw [if_pos (by rw [List.length_append];omega)]
 rw [← h,List.take_left]
theorem xpk (l r:List UInt8) (n:Nat) (h:l.length=n):rsB n (l++r)=r:=by
 unfold rsB;rw [if_pos (by rw [List.length_append];omega)]
 rw [← h,List.drop_left]
theorem xgy (b:UInt8) (r:List UInt8):hdN (b::r)=b.toNat:=by
 unfold hdN hdU
 rw [show b::r=[b]++r from rfl,xtw [b] r 1 rfl];rfl
theorem xkl (b:UInt8) (r:List UInt8):rsB 1 (b::r)=r:=xpk [b] r 1 rfl
theorem nuB_put (x:UInt32) (r:List UInt8):nuB (xdf 4 x.toNat++r)=x:=by
 unfold nuB
 rw [xtw _ r 4 (xcv 4 _),getN_putB 4 x.toNat (by have:=x.toNat_lt;exact this),UInt32.ofNat_toNat]
theorem numN_put (n:Nat) (h:n < 4294967296) (r:List UInt8):xdb (xdf 4 n++r)=n:=by
 unfold xdb
 rw [xoe,xtw _ r 4 (xcv 4 _),getN_putB 4 n (by exact h)]
theorem xuo (op:Int) (zs:List UInt32) (ss:List (List UInt8)) (h1:op=2 → zs.length=ss.length) (h2:op=2 → ∀ d ∈ ss,d.length=440) :
 ∀ i,i ≤ zs.length → pst op (xbw op zs ss) true i=(xbw op (zs.drop i) (ss.drop i),true,zs.take i,if op=2 then ss.take i else [])
 | 0,_=>by simp [pst]
 | i+1,hi=>by
  have ih:=xuo op zs ss h1 h2 i (by omega)
  obtain ⟨x,hx⟩:∃ x,zs[i]? = some x:=⟨_,List.getElem?_eq_getElem (by omega)⟩
  have hz:zs.drop i=x::zs.drop (i+1):=by
   obtain ⟨hlt,hv⟩:=List.getElem?_eq_some_iff.1 hx
   rw [← hv];exact List.drop_eq_getElem_cons hlt
  have tk:zs.take (i+1)=zs.take i++[x]:=by rw [List.take_add_one,hx];rfl
  have p4:(xdf 4 x.toNat).length=4:=xcv 4 _
  simp only [pst,ih,hz]
  by_cases ho:op=2
  · obtain ⟨y,hy⟩:∃ y,ss[i]? = some y:=⟨_,List.getElem?_eq_getElem (by have:=h1 ho;omega)⟩
    have hs:ss.drop i=y::ss.drop (i+1):=by
     obtain ⟨hlt,hv⟩:=List.getElem?_eq_some_iff.1 hy
     rw [← hv];exact List.drop_eq_getElem_cons hlt
    have y4:y.length=440:=h2 ho y (List.mem_of_getElem? hy)
    have eb:xbw op (x::zs.drop (i+1)) (ss.drop i)=xdf 4 x.toNat++(y++xbw op (zs.drop (i+1)) (ss.drop (i+1))):=by
     rw [hs]
     show xdf 4 x.toNat++((if op=2 then y else [])++xbw op _ (ss.drop (i+1)))=_
     rw [if_pos ho]
    have tk2:ss.take (i+1)=ss.take i++[y]:=by rw [List.take_add_one,hy];rfl
    rw [eb,if_pos ho,xpk _ _ 4 p4,xpk _ _ 440 y4,nuB_put,xtw _ _ 440 y4,tk,tk2]
    simp only [if_pos ho,Prod.mk.injEq,true_and,and_true]
    rw [Bool.and_eq_true,Bool.and_eq_true]
    refine ⟨⟨rfl,Nat.ble_eq_true_of_le ?_⟩,Nat.ble_eq_true_of_le ?_⟩
    · rw [List.length_append,p4];omega
    · rw [List.length_append,y4];omega
  · have eb:xbw op (x::zs.drop (i+1)) (ss.drop i)=xdf 4 x.toNat++xbw op (zs.drop (i+1)) (ss.drop (i+1)):=by
     show xdf 4 x.toNat++((if op=2 then (ss.drop i).headD [] else [])++xbw op _ (ss.drop i).tail)=_
     rw [if_neg ho,List.tail_drop];rfl
    rw [eb,if_neg ho,xpk _ _ 4 p4,nuB_put,tk]
    simp only [if_neg ho,Prod.mk.injEq,true_and,and_true]
    rw [Bool.and_eq_true]
    refine ⟨rfl,Nat.ble_eq_true_of_le ?_⟩
    rw [List.length_append,p4];omega
theorem xih (x:Int) (h0:0 ≤ x) (h1:x < 256):(UInt8.ofNat x.toNat).toNat=x.toNat:=by
 rw [UInt8.toNat_ofNat'];omega
set_option maxHeartbeats 1000000 in
theorem parS_req {op sub pl fi ct:Int} {zs:List UInt32} {ds:List (Bool × List UInt8)} (h:xbi op sub pl fi ct zs.length ds.length (xcu ds)=true) (s0:0 ≤ sub) (p0:0 ≤ pl) (p1:pl ≤ 255) (f0:0 ≤ fi) (f1:fi < 4294967296) :
 hdN (xgd op sub pl fi ct zs (ds.map Prod.snd))=op.toNat∧xel (xgd op sub pl fi ct zs (ds.map Prod.snd))=⟨true,[],sub.toNat,pl.toNat,fi.toNat,ct.toNat,zs,ds.map Prod.snd⟩:=by
 unfold xbi at h
 rw [Bool.and_eq_true,decide_eq_true_eq] at h
 obtain ⟨hP,hD⟩:=h
 unfold xau at hP
 have nz:∀ {α:Type} (l:List α),l.length=0 → l=[]:=fun l h=>List.eq_nil_of_length_eq_zero h
 have ob:=xih op (by omega) (by omega)
 by_cases h1:op=1
 · have z0:=nz zs (by omega)
   have d0:=nz ds (by omega)
   subst z0;subst d0
   have cb:=xih ct (by omega) (by omega)
   have p4:(xdf 4 fi.toNat).length=4:=xcv 4 _
   have eq:xgd op sub pl fi ct [] (([]:List (Bool × List UInt8)).map Prod.snd)=UInt8.ofNat op.toNat::(xdf 4 fi.toNat++[UInt8.ofNat ct.toNat]):=by unfold xgd;rw [if_pos h1]
   rw [eq]
   have hd:hdN (UInt8.ofNat op.toNat::(xdf 4 fi.toNat++[UInt8.ofNat ct.toNat]))=op.toNat:=by rw [xgy,ob]
   refine ⟨hd,?_⟩
   unfold xel
   simp only [hd,if_pos (show op.toNat=1 by omega),xkl,xpk _ _ 4 p4,numN_put _ (show fi.toNat < 4294967296 by omega),xgy,cb]
   rw [show sub.toNat=0 by omega,show pl.toNat=0 by omega]
   rw [show Nat.ble 4 (xdf 4 fi.toNat++[UInt8.ofNat ct.toNat]).length=true by rw [List.length_append,p4];rfl]
   rfl
 by_cases h23:op=2 ∨ op=3
 · have zb:(UInt8.ofNat zs.length).toNat=zs.length:=by rw [UInt8.toNat_ofNat'];omega
   have eq:xgd op sub pl fi ct zs (ds.map Prod.snd)=UInt8.ofNat op.toNat::UInt8.ofNat zs.length::xbw op zs (ds.map Prod.snd):=by unfold xgd;rw [if_neg h1,if_pos h23];rfl
   rw [eq]
   have hd:hdN (UInt8.ofNat op.toNat::UInt8.ofNat zs.length::xbw op zs (ds.map Prod.snd))=op.toNat:=by rw [xgy,ob]
   refine ⟨hd,?_⟩
   have key:=xuo op zs (ds.map Prod.snd) (fun h=>by rw [List.length_map];omega) (fun h d hd=>by
    obtain ⟨x,hx,rfl⟩:=List.mem_map.1 hd
    obtain ⟨i,hi⟩:=List.getElem?_of_mem hx
    exact xaj (xnx hD hi)) zs.length (Nat.le_refl _)
   rw [List.drop_length,List.take_length] at key
   have oi:Int.ofNat op.toNat=op:=by simp only [Int.ofNat_eq_natCast];omega
   unfold xel
   simp only [hd,if_neg (show op.toNat ≠ 1 by omega),if_pos (show op.toNat=2 ∨ op.toNat=3 by omega),xkl,xgy,zb,oi]
   have e1:(Nat.ble 1 (UInt8.ofNat op.toNat::UInt8.ofNat zs.length::xbw op zs (ds.map Prod.snd)).length && Nat.ble 1 (UInt8.ofNat zs.length::xbw op zs (ds.map Prod.snd)).length)=true:=rfl
   rw [e1]
   unfold pK pR pA pD
   rw [key]
   have ed:(if op=2 then (ds.map Prod.snd).take zs.length else [])=ds.map Prod.snd:=by
    by_cases h2:op=2
    · rw [if_pos h2,List.take_of_length_le (by rw [List.length_map];omega)]
    · rw [if_neg h2,nz ds (by omega)];rfl
   simp only [ed,PQ.mk.injEq,and_true,true_and]
   refine ⟨?_,by omega,by omega,by omega,by omega⟩
   rfl
 have z0:=nz zs (by omega)
 have d0:=nz ds (by omega)
 subst z0;subst d0
 by_cases h4:op=4
 · have eq:xgd op sub pl fi ct [] (([]:List (Bool × List UInt8)).map Prod.snd)=[UInt8.ofNat op.toNat]:=by unfold xgd;rw [if_neg h1,if_neg h23,if_pos h4]
   rw [eq]
   have hd:hdN [UInt8.ofNat op.toNat]=op.toNat:=by rw [xgy,ob]
   refine ⟨hd,?_⟩
   unfold xel
   simp only [hd,if_neg (show op.toNat ≠ 1 by omega),if_neg (show ¬(op.toNat=2 ∨ op.toNat=3) by omega),if_neg (show ¬(op.toNat=5 ∨ op.toNat=6 ∨ op.toNat=7) by omega),xkl]
   rw [show sub.toNat=0 by omega,show pl.toNat=0 by omega,show fi.toNat=0 by omega,show ct.toNat=0 by omega]
   rfl
 · have eq:xgd op sub pl fi ct [] (([]:List (Bool × List UInt8)).map Prod.snd)=[UInt8.ofNat op.toNat,UInt8.ofNat sub.toNat,UInt8.ofNat pl.toNat]:=by unfold xgd;rw [if_neg h1,if_neg h23,if_neg h4]
   rw [eq]
   have sb:=xih sub (by omega) (by omega)
   have pb:=xih pl (by omega) (by omega)
   have hd:hdN [UInt8.ofNat op.toNat,UInt8.ofNat sub.toNat,UInt8.ofNat pl.toNat]=op.toNat:=by rw [xgy,ob]
   refine ⟨hd,?_⟩
   unfold xel
   simp only [hd,if_neg (show op.toNat ≠ 1 by omega),if_neg (show ¬(op.toNat=2 ∨ op.toNat=3) by omega),if_pos (show op.toNat=5 ∨ op.toNat=6 ∨ op.toNat=7 by omega),xkl,xgy,sb,pb]
   rw [show fi.toNat=0 by omega,show ct.toNat=0 by omega]
   rfl
end Go.Ab
end
end

section
noncomputable section
namespace Go.Proofs.Ytecncappdnhbaaa
open Go.Ab.M Go.Ab Go
def K10v:xem:={ t:=[(76,rgetR.rt)] }
theorem K10v_ok:KOK Try.prog tys K10v:=⟨⟨xcf.rt_sound rgetR_ok,trivial⟩,trivial,trivial,trivial,trivial⟩
abbrev C10v:=xdt tys fns K10v
theorem all10v:xcy Try.prog C10v:=xdw K10v_ok
end Go.Proofs.Ytecncappdnhbaaa
end
end

section
noncomputable section
namespace Go.Proofs.Ytecncappdnhbaaa
open Go.Ab.M Go.Ab Go
theorem nmD (w:List UInt8) (at_:Nat) (h0:((Int.ofNat at_).toNat.ble w.length)=true) (h1:((0+(List.take (w.length - (Int.ofNat at_).toNat) (List.drop (Int.ofNat at_).toNat w)).length*1).ble (ofBytes (List.take (w.length - (Int.ofNat at_).toNat) (List.drop (Int.ofNat at_).toNat w))).length)=true) (h2:(AV.plainL (ofBytes (List.take (w.length - (Int.ofNat at_).toNat) (List.drop (Int.ofNat at_).toNat w))))=true) (h3:((xan (ofBytes (List.take (w.length - (Int.ofNat at_).toNat) (List.drop (Int.ofNat at_).toNat w))) 0 ((List.take (w.length - (Int.ofNat at_).toNat) (List.drop (Int.ofNat at_).toNat w)).length*1)).length.beq (List.take (w.length - (Int.ofNat at_).toNat) (List.drop (Int.ofNat at_).toNat w)).length)=true) (h4:(u8L (xan (ofBytes (List.take (w.length - (Int.ofNat at_).toNat) (List.drop (Int.ofNat at_).toNat w))) 0 ((List.take (w.length - (Int.ofNat at_).toNat) (List.drop (Int.ofNat at_).toNat w)).length*1)))=true) :
 ∃ h',xbl C10v 30 (Tgt.fn 99) [.str w, .int .i64 (Int.ofNat at_)] H0=some (AV.int IntKind.u64 (getI 4 (xan (ofBytes (List.take (w.length - (Int.ofNat at_).toNat) (List.drop (Int.ofNat at_).toNat w))) 0 ((List.take (w.length - (Int.ofNat at_).toNat) (List.drop (Int.ofNat at_).toNat w)).length*1))),h')∧[].map h'.get=[] :=
 xaa (q:=qNs [3,0,0,0,0,0,3]) (c:=(cnT::cnT::cnT::cnT::cnT::[])) (by kernel_rfl) ⟨h0,h1,h2,h3,h4,trivial⟩
def numD:xcf:=xcf.pl true fun us=>match us with
 | [.str w, .int .i64 (.ofNat at_)]=>some ([Nat.ble (at_+4) w.length], .int .u64 (Int.ofNat (kept (xdb (w.drop at_)))))
 | _=>none
theorem numD_ok:xcf.Sound Try.prog tys 99 numD:=by
 refine xcf.soundZ (cxZ xbd) all10v (xcf.pl_ok fun us q v hm hc=>?_)
 split at hm
 · rename_i w at_
   injection hm with hm;injection hm with e1 e2;subst e1;subst e2
   simp only [xah] at hc
   have c1:=Nat.le_of_ble_eq_true hc.1
   refine ⟨rfl,30,?_⟩
   have z0:(Int.ofNat at_).toNat=at_:=rfl
   have et:List.take (w.length - at_) (List.drop at_ w)=List.drop at_ w:=List.take_of_length_le (by rw [List.length_drop];omega)
   have rc:=xfl (List.drop at_ w) _ rfl
   have key:=nmD w at_
   iterate 5
    replace key:=key (by
     (try simp only [z0,et,Nat.mul_one,rc])
     first
      | done
      | with_reducible exact xao _
      | with_reducible exact xbc _
      | (rw [xbq];exact decide_eq_true (by omega))
      | (simp [xbn,xbq,xad];done))
   obtain ⟨h',h,_⟩:=key
   simp only [z0,et,Nat.mul_one,rc] at h
   rw [xft,if_pos (by rw [List.length_drop];omega)] at h
   refine ⟨h',h.trans ?_⟩
   rw [xab,xdb,xoe]
   unfold tkB
   rw [if_pos (by rw [List.length_drop];omega)];rfl
 · cases hm
def K10x:xem:={ t:=[(99,numD.rt),(59,docR.rt)] }
theorem K10x_ok:KOK Try.prog tys K10x:=⟨⟨xcf.rt_sound numD_ok,xcf.rt_sound docR_ok,trivial⟩,trivial,trivial,trivial,trivial⟩
abbrev C10x:=xdt tys fns K10x
theorem xog:xcy Try.prog C10x:=xdw K10x_ok
end Go.Proofs.Ytecncappdnhbaaa
end
end

section
noncomputable section
namespace Go.Ab.M
def xet (op:Int):Nat:=if op=2 then 444 else 4
def xee (op:Int) (w:List UInt8):Nat:=(w.length - 2) / xet op
end Go.Ab.M
namespace Go.Ab
open M
theorem pst_doc (op:Int) (w:List UInt8) (m:Nat) (h:w.length=2+m*xet op):∀ i,i ≤ m → pR op (w.drop 2) true i=w.drop (2+i*xet op)∧pK op (w.drop 2) true i=true
 | 0,_=>by simp [pR,pK,pst]
 | i+1,hi=>by
  obtain ⟨h1,h2⟩:=pst_doc op w m h i (by omega)
  unfold pR at h1;unfold pK at h2
  unfold pR pK
  simp only [pst,h1,h2]
  by_cases ho:op=2
  · have s4:xet op=444:=by unfold xet;rw [if_pos ho]
    rw [s4] at h ⊢
    have e2:(i+1)*444 ≤ m*444:=Nat.mul_le_mul_right _ hi
    have r4:rsB 4 (w.drop (2+i*444))=w.drop (2+i*444+4):=by unfold rsB;rw [if_pos (by rw [List.length_drop];omega),List.drop_drop]
    have r5:rsB 440 (w.drop (2+i*444+4))=w.drop (2+i*444+4+440):=by unfold rsB;rw [if_pos (by rw [List.length_drop];omega),List.drop_drop]
    rw [if_pos ho,r4,r5]
    refine ⟨by show w.drop (2+i*444+4+440)=w.drop (2+(i+1)*444);congr 1;omega,?_⟩
    rw [Bool.and_eq_true,Bool.and_eq_true]
    exact ⟨⟨rfl,Nat.ble_eq_true_of_le (by rw [List.length_drop];omega)⟩,Nat.ble_eq_true_of_le (by rw [List.length_drop];omega)⟩
  · have s4:xet op=4:=by unfold xet;rw [if_neg ho]
    rw [s4] at h ⊢
    have e2:(i+1)*4 ≤ m*4:=Nat.mul_le_mul_right _ hi
    have r4:rsB 4 (w.drop (2+i*4))=w.drop (2+i*4+4):=by unfold rsB;rw [if_pos (by rw [List.length_drop];omega),List.drop_drop]
    rw [if_neg ho,r4]
    refine ⟨by show w.drop (2+i*4+4)=w.drop (2+(i+1)*4);congr 1;omega,?_⟩
    rw [Bool.and_eq_true]
    exact ⟨rfl,Nat.ble_eq_true_of_le (by rw [List.length_drop];omega)⟩
theorem room8b {n:Nat} (h:n ≤ 100000):xch 8 n 1=true:=by unfold xch;exact decide_eq_true (by omega)
theorem xuj {n:Nat} (h:n ≤ 100000):xch 16 n 1=true:=by unfold xch;exact decide_eq_true (by omega)
end Go.Ab
namespace Go.Proofs.Ytecncappdnhbaaa
open Go.Ab.M Go.Ab Go
theorem qA_e (o:Int) (w:List UInt8) (sz:Nat) (at_:Nat) (h0:(xak (Int.ofNat at_) (Int.ofNat w.length))=false) :
 xbb Try.prog (xdi tys) 97 2 (xbj (xbg Try.f61 1)) { fr:=xar 97 ([0,2,4,5,6].zip [.str w, .ptr (some (0,0)), .ptr (some (1,0)), .int .i64 (Int.ofNat sz), .int .i64 (Int.ofNat at_)]),ds:=xdp 0,H:=mkL [.cells true 108 7 [.int .u8 (Int.ofNat 0), .int .u8 (Int.ofNat 0), .int .u8 (Int.ofNat 0), .int .u64 (Int.ofNat 0), .int .u8 (Int.ofNat 0), .slice none 0 (some 0), .slice none 0 (some 0)], .cells true 108 7 [.int .u8 o, .int .u8 (Int.ofNat 0), .int .u8 (Int.ofNat 0), .int .u64 (Int.ofNat 0), .int .u8 (Int.ofNat 0), .slice none 0 (some 0), .slice none 0 (some 0)]] } (AX.exit 1) ⟨xar 97 ([0,2,4,5,6].zip [.str w, .ptr (some (0,0)), .ptr (some (1,0)), .int .i64 (Int.ofNat sz), .int .i64 (Int.ofNat at_)]),xdp 0,mkL [.cells true 108 7 [.int .u8 (Int.ofNat 0), .int .u8 (Int.ofNat 0), .int .u8 (Int.ofNat 0), .int .u64 (Int.ofNat 0), .int .u8 (Int.ofNat 0), .slice none 0 (some 0), .slice none 0 (some 0)], .cells true 108 7 [.int .u8 o, .int .u8 (Int.ofNat 0), .int .u8 (Int.ofNat 0), .int .u64 (Int.ofNat 0), .int .u8 (Int.ofNat 0), .slice none 0 (some 0), .slice none 0 (some 0)]]⟩ :=
 xbh (g:=30) (k:=61) (f:=30) (sl:=[0,2,4,5,6]) (ks:=[0,1]) (rs:=[]) (ds:=[]) (cxZ xbd) xog (q:=qNs [1]) (c:=(cnF::[])) (cq:=[true,true,true,true]) (by kernel_rfl) ⟨h0,trivial⟩ (xci ⟨rfl,rfl,rfl,rfl,trivial⟩) (by kernel_rfl) (by kernel_rfl) (by kernel_rfl) (by kernel_rfl) (by kernel_rfl)
theorem qA_2 (o:Int) (w:List UInt8) (sz:Nat) (at_:Nat) (h0:(xak (Int.ofNat at_) (Int.ofNat w.length))=true) (h1:((at_+4).ble w.length)=true) (h2:(xae (AV.int IntKind.u8 o).intOf (Int.ofNat 2))=true) (h3:(xbr (Int.ofNat 0) (xaf IntKind.i64 ((Int.ofNat at_).add (Int.ofNat sz))))=true) (h4:((xaf IntKind.i64 ((Int.ofNat at_).add (Int.ofNat sz))).toNat.ble w.length)=true) (h5:(xbr (Int.ofNat 0) (xaf IntKind.i64 ((Int.ofNat at_).add (Int.ofNat 4))))=true) (h6:((xaf IntKind.i64 ((Int.ofNat at_).add (Int.ofNat 4))).toNat.ble (xaf IntKind.i64 ((Int.ofNat at_).add (Int.ofNat sz))).toNat)=true) :
 xbb Try.prog (xdi tys) 97 2 (xbj (xbg Try.f61 1)) { fr:=xar 97 ([0,2,4,5,6].zip [.str w, .ptr (some (0,0)), .ptr (some (1,0)), .int .i64 (Int.ofNat sz), .int .i64 (Int.ofNat at_)]),ds:=xdp 0,H:=mkL [.cells true 108 7 [.int .u8 (Int.ofNat 0), .int .u8 (Int.ofNat 0), .int .u8 (Int.ofNat 0), .int .u64 (Int.ofNat 0), .int .u8 (Int.ofNat 0), .slice none 0 (some 0), .slice none 0 (some 0)], .cells true 108 7 [.int .u8 o, .int .u8 (Int.ofNat 0), .int .u8 (Int.ofNat 0), .int .u64 (Int.ofNat 0), .int .u8 (Int.ofNat 0), .slice none 0 (some 0), .slice none 0 (some 0)]] } (AX.normal) ⟨xar 97 ([0,2,4,5,6].zip [.str w, .ptr (some (0,0)), .ptr (some (1,0)), .int .i64 (Int.ofNat sz), .int .i64 (xaf IntKind.i64 ((Int.ofNat at_).add (Int.ofNat sz)))]),xdp 0,mkL [.cells true 108 7 [.int .u8 (Int.ofNat 0), .int .u8 (Int.ofNat 0), .int .u8 (Int.ofNat 0), .int .u64 (Int.ofNat 0), .int .u8 (Int.ofNat 0), .slice none 0 (some 0), .slice none 0 (some 0)], .cells true 108 7 [.int .u8 o, .int .u8 (Int.ofNat 0), .int .u8 (Int.ofNat 0), .int .u64 (Int.ofNat 0), .int .u8 (Int.ofNat 0), .slice (some (2,0)) 1 none, .slice (some (3,0)) 1 none], .cells true 22 1 [.int .u64 (Int.ofNat (kept (xdb (List.drop at_ w))))], .cells true 9 1 [.str (List.take ((xaf IntKind.i64 ((Int.ofNat at_).add (Int.ofNat sz))).toNat - (xaf IntKind.i64 ((Int.ofNat at_).add (Int.ofNat 4))).toNat) (List.drop (xaf IntKind.i64 ((Int.ofNat at_).add (Int.ofNat 4))).toNat w))]]⟩ :=
 xbh (g:=30) (k:=61) (f:=30) (sl:=[0,2,4,5,6]) (ks:=[0,1,3,5]) (rs:=[]) (ds:=[]) (cxZ xbd) xog (q:=qNs [0,5,0,21,0,0,6,0,6,0,5,0,0,0,0,16,0,0,0,0,0,0,0,0,0,0,0,6,0,3]) (c:=(cnT::cnT::Cnd.same (AV.str w) (AV.str w)::Cnd.same (AV.int IntKind.i64 (Int.ofNat at_)) (AV.int IntKind.i64 (Int.ofNat at_))::Cnd.same (AV.agg [AV.int IntKind.u64 (Int.ofNat (kept (xdb (List.drop at_ w))))]) (AV.agg [AV.int IntKind.u64 (Int.ofNat (kept (xdb (List.drop at_ w))))])::cnT::cnT::cnT::cnT::cnT::Cnd.same (AV.str w) (AV.str w)::Cnd.same (AV.int IntKind.i64 (Int.ofNat at_)) (AV.int IntKind.i64 (Int.ofNat at_))::Cnd.same (AV.int IntKind.i64 (xaf IntKind.i64 ((Int.ofNat at_).add (Int.ofNat 4)))) (AV.int IntKind.i64 (xaf IntKind.i64 ((Int.ofNat at_).add (Int.ofNat 4))))::Cnd.same (AV.int IntKind.i64 (Int.ofNat at_)) (AV.int IntKind.i64 (Int.ofNat at_))::Cnd.same (AV.int IntKind.i64 (Int.ofNat sz)) (AV.int IntKind.i64 (Int.ofNat sz))::Cnd.same (AV.int IntKind.i64 (xaf IntKind.i64 ((Int.ofNat at_).add (Int.ofNat sz)))) (AV.int IntKind.i64 (xaf IntKind.i64 ((Int.ofNat at_).add (Int.ofNat sz))))::cnT::cnT::cnT::cnT::Cnd.same (AV.str (List.take ((xaf IntKind.i64 ((Int.ofNat at_).add (Int.ofNat sz))).toNat - (xaf IntKind.i64 ((Int.ofNat at_).add (Int.ofNat 4))).toNat) (List.drop (xaf IntKind.i64 ((Int.ofNat at_).add (Int.ofNat 4))).toNat w))) (AV.str (List.take ((xaf IntKind.i64 ((Int.ofNat at_).add (Int.ofNat sz))).toNat - (xaf IntKind.i64 ((Int.ofNat at_).add (Int.ofNat 4))).toNat) (List.drop (xaf IntKind.i64 ((Int.ofNat at_).add (Int.ofNat 4))).toNat w)))::Cnd.same (AV.agg [AV.str (List.take ((xaf IntKind.i64 ((Int.ofNat at_).add (Int.ofNat sz))).toNat - (xaf IntKind.i64 ((Int.ofNat at_).add (Int.ofNat 4))).toNat) (List.drop (xaf IntKind.i64 ((Int.ofNat at_).add (Int.ofNat 4))).toNat w))]) (AV.agg [AV.str (List.take ((xaf IntKind.i64 ((Int.ofNat at_).add (Int.ofNat sz))).toNat - (xaf IntKind.i64 ((Int.ofNat at_).add (Int.ofNat 4))).toNat) (List.drop (xaf IntKind.i64 ((Int.ofNat at_).add (Int.ofNat 4))).toNat w))])::[])) (cq:=[true,true,true,true,true,true,true,true,true,true]) (by kernel_rfl) ⟨h0,h1,rfl,rfl,rfl,h2,h3,h4,h5,h6,rfl,rfl,rfl,rfl,rfl,rfl,h3,h4,h5,h6,rfl,rfl,trivial⟩ (xci ⟨rfl,rfl,rfl,rfl,rfl,rfl,rfl,rfl,rfl,rfl,trivial⟩) (by kernel_rfl) (by kernel_rfl) (by kernel_rfl) (by kernel_rfl) (by kernel_rfl)
theorem qA_3 (o:Int) (w:List UInt8) (sz:Nat) (at_:Nat) (h0:(xak (Int.ofNat at_) (Int.ofNat w.length))=true) (h1:((at_+4).ble w.length)=true) (h2:(xae (AV.int IntKind.u8 o).intOf (Int.ofNat 2))=false) :
 xbb Try.prog (xdi tys) 97 2 (xbj (xbg Try.f61 1)) { fr:=xar 97 ([0,2,4,5,6].zip [.str w, .ptr (some (0,0)), .ptr (some (1,0)), .int .i64 (Int.ofNat sz), .int .i64 (Int.ofNat at_)]),ds:=xdp 0,H:=mkL [.cells true 108 7 [.int .u8 (Int.ofNat 0), .int .u8 (Int.ofNat 0), .int .u8 (Int.ofNat 0), .int .u64 (Int.ofNat 0), .int .u8 (Int.ofNat 0), .slice none 0 (some 0), .slice none 0 (some 0)], .cells true 108 7 [.int .u8 o, .int .u8 (Int.ofNat 0), .int .u8 (Int.ofNat 0), .int .u64 (Int.ofNat 0), .int .u8 (Int.ofNat 0), .slice none 0 (some 0), .slice none 0 (some 0)]] } (AX.normal) ⟨xar 97 ([0,2,4,5,6].zip [.str w, .ptr (some (0,0)), .ptr (some (1,0)), .int .i64 (Int.ofNat sz), .int .i64 (xaf IntKind.i64 ((Int.ofNat at_).add (Int.ofNat sz)))]),xdp 0,mkL [.cells true 108 7 [.int .u8 (Int.ofNat 0), .int .u8 (Int.ofNat 0), .int .u8 (Int.ofNat 0), .int .u64 (Int.ofNat 0), .int .u8 (Int.ofNat 0), .slice none 0 (some 0), .slice none 0 (some 0)], .cells true 108 7 [.int .u8 o, .int .u8 (Int.ofNat 0), .int .u8 (Int.ofNat 0), .int .u64 (Int.ofNat 0), .int .u8 (Int.ofNat 0), .slice (some (2,0)) 1 none, .slice none 0 (some 0)], .cells true 22 1 [.int .u64 (Int.ofNat (kept (xdb (List.drop at_ w))))]]⟩ :=
 xbh (g:=30) (k:=61) (f:=30) (sl:=[0,2,4,5,6]) (ks:=[0,1,3]) (rs:=[]) (ds:=[]) (cxZ xbd) xog (q:=qNs [0,5,0,21,0,0,6,0,6,1]) (c:=(cnT::cnT::Cnd.same (AV.str w) (AV.str w)::Cnd.same (AV.int IntKind.i64 (Int.ofNat at_)) (AV.int IntKind.i64 (Int.ofNat at_))::Cnd.same (AV.agg [AV.int IntKind.u64 (Int.ofNat (kept (xdb (List.drop at_ w))))]) (AV.agg [AV.int IntKind.u64 (Int.ofNat (kept (xdb (List.drop at_ w))))])::cnF::[])) (cq:=[true,true,true,true,true,true,true]) (by kernel_rfl) ⟨h0,h1,rfl,rfl,rfl,h2,trivial⟩ (xci ⟨rfl,rfl,rfl,rfl,rfl,rfl,rfl,trivial⟩) (by kernel_rfl) (by kernel_rfl) (by kernel_rfl) (by kernel_rfl) (by kernel_rfl)
theorem qB2_e (o:Int) (w:List UInt8) (sz:Nat) (at_:Nat) (a:Nat) (a':Nat) (d:Nat) (d':Nat) (xs:List AV) (ys:List AV) (h0:(xak (Int.ofNat at_) (Int.ofNat w.length))=false) (h1:(AV.plainL xs)=true) (h2:(AV.plainL ys)=true) :
 xbb Try.prog (xdi tys) 97 2 (xbj (xbg Try.f61 1)) { fr:=xar 97 ([0,2,4,5,6].zip [.str w, .ptr (some (0,0)), .ptr (some (1,0)), .int .i64 (Int.ofNat sz), .int .i64 (Int.ofNat at_)]),ds:=xdp 0,H:=mkL [.cells true 108 7 [.int .u8 (Int.ofNat 0), .int .u8 (Int.ofNat 0), .int .u8 (Int.ofNat 0), .int .u64 (Int.ofNat 0), .int .u8 (Int.ofNat 0), .slice none 0 (some 0), .slice none 0 (some 0)], .cells true 108 7 [.int .u8 o, .int .u8 (Int.ofNat 0), .int .u8 (Int.ofNat 0), .int .u64 (Int.ofNat 0), .int .u8 (Int.ofNat 0), .slice (some (2,0)) a none, .slice (some (3,0)) d none], .cells true 22 a' xs, .cells true 9 d' ys] } (AX.exit 1) ⟨xar 97 ([0,2,4,5,6].zip [.str w, .ptr (some (0,0)), .ptr (some (1,0)), .int .i64 (Int.ofNat sz), .int .i64 (Int.ofNat at_)]),xdp 0,mkL [.cells true 108 7 [.int .u8 (Int.ofNat 0), .int .u8 (Int.ofNat 0), .int .u8 (Int.ofNat 0), .int .u64 (Int.ofNat 0), .int .u8 (Int.ofNat 0), .slice none 0 (some 0), .slice none 0 (some 0)], .cells true 108 7 [.int .u8 o, .int .u8 (Int.ofNat 0), .int .u8 (Int.ofNat 0), .int .u64 (Int.ofNat 0), .int .u8 (Int.ofNat 0), .slice (some (2,0)) a none, .slice (some (3,0)) d none], .cells true 22 a' xs, .cells true 9 d' ys]⟩ :=
 xbh (g:=30) (k:=61) (f:=30) (sl:=[0,2,4,5,6]) (ks:=[0,1,2,3]) (rs:=[]) (ds:=[]) (cxZ xbd) xog (q:=qNs [1]) (c:=(cnF::[])) (cq:=[true,true,true,true,true,true,true,AV.plainL xs,true,AV.plainL ys]) (by kernel_rfl) ⟨h0,trivial⟩ (xci ⟨rfl,rfl,rfl,rfl,rfl,rfl,rfl,h1,rfl,h2,trivial⟩) (by kernel_rfl) (by kernel_rfl) (by kernel_rfl) (by kernel_rfl) (by kernel_rfl)
theorem qB2_2 (o:Int) (w:List UInt8) (sz:Nat) (at_:Nat) (a:Nat) (a':Nat) (d:Nat) (d':Nat) (xs:List AV) (ys:List AV) (h0:(xak (Int.ofNat at_) (Int.ofNat w.length))=true) (h1:((at_+4).ble w.length)=true) (h2:(xch 8 a 1)=true) (h3:(a'.beq (a*1))=true) (h4:(xae (AV.int IntKind.u8 o).intOf (Int.ofNat 2))=true) (h5:(xbr (Int.ofNat 0) (xaf IntKind.i64 ((Int.ofNat at_).add (Int.ofNat sz))))=true) (h6:((xaf IntKind.i64 ((Int.ofNat at_).add (Int.ofNat sz))).toNat.ble w.length)=true) (h7:(xbr (Int.ofNat 0) (xaf IntKind.i64 ((Int.ofNat at_).add (Int.ofNat 4))))=true) (h8:((xaf IntKind.i64 ((Int.ofNat at_).add (Int.ofNat 4))).toNat.ble (xaf IntKind.i64 ((Int.ofNat at_).add (Int.ofNat sz))).toNat)=true) (h9:(xch 16 d 1)=true) (h10:(d'.beq (d*1))=true) (h11:(AV.plainL (xs++[AV.int IntKind.u64 (Int.ofNat (kept (xdb (List.drop at_ w))))]))=true) (h12:(AV.plainL (ys++[AV.str (List.take ((xaf IntKind.i64 ((Int.ofNat at_).add (Int.ofNat sz))).toNat - (xaf IntKind.i64 ((Int.ofNat at_).add (Int.ofNat 4))).toNat) (List.drop (xaf IntKind.i64 ((Int.ofNat at_).add (Int.ofNat 4))).toNat w))]))=true) :
 xbb Try.prog (xdi tys) 97 2 (xbj (xbg Try.f61 1)) { fr:=xar 97 ([0,2,4,5,6].zip [.str w, .ptr (some (0,0)), .ptr (some (1,0)), .int .i64 (Int.ofNat sz), .int .i64 (Int.ofNat at_)]),ds:=xdp 0,H:=mkL [.cells true 108 7 [.int .u8 (Int.ofNat 0), .int .u8 (Int.ofNat 0), .int .u8 (Int.ofNat 0), .int .u64 (Int.ofNat 0), .int .u8 (Int.ofNat 0), .slice none 0 (some 0), .slice none 0 (some 0)], .cells true 108 7 [.int .u8 o, .int .u8 (Int.ofNat 0), .int .u8 (Int.ofNat 0), .int .u64 (Int.ofNat 0), .int .u8 (Int.ofNat 0), .slice (some (2,0)) a none, .slice (some (3,0)) d none], .cells true 22 a' xs, .cells true 9 d' ys] } (AX.normal) ⟨xar 97 ([0,2,4,5,6].zip [.str w, .ptr (some (0,0)), .ptr (some (1,0)), .int .i64 (Int.ofNat sz), .int .i64 (xaf IntKind.i64 ((Int.ofNat at_).add (Int.ofNat sz)))]),xdp 0,mkL [.cells true 108 7 [.int .u8 (Int.ofNat 0), .int .u8 (Int.ofNat 0), .int .u8 (Int.ofNat 0), .int .u64 (Int.ofNat 0), .int .u8 (Int.ofNat 0), .slice none 0 (some 0), .slice none 0 (some 0)], .cells true 108 7 [.int .u8 o, .int .u8 (Int.ofNat 0), .int .u8 (Int.ofNat 0), .int .u64 (Int.ofNat 0), .int .u8 (Int.ofNat 0), .slice (some (2,0)) (a+1) none, .slice (some (3,0)) (d+1) none], .cells true 22 (xs++[AV.int IntKind.u64 (Int.ofNat (kept (xdb (List.drop at_ w))))]).length (xs++[AV.int IntKind.u64 (Int.ofNat (kept (xdb (List.drop at_ w))))]), .cells true 9 (ys++[AV.str (List.take ((xaf IntKind.i64 ((Int.ofNat at_).add (Int.ofNat sz))).toNat - (xaf IntKind.i64 ((Int.ofNat at_).add (Int.ofNat 4))).toNat) (List.drop (xaf IntKind.i64 ((Int.ofNat at_).add (Int.ofNat 4))).toNat w))]).length (ys++[AV.str (List.take ((xaf IntKind.i64 ((Int.ofNat at_).add (Int.ofNat sz))).toNat - (xaf IntKind.i64 ((Int.ofNat at_).add (Int.ofNat 4))).toNat) (List.drop (xaf IntKind.i64 ((Int.ofNat at_).add (Int.ofNat 4))).toNat w))])]⟩ :=
 xbh (g:=30) (k:=61) (f:=30) (sl:=[0,2,4,5,6]) (ks:=[0,1,5,7]) (rs:=[]) (ds:=[]) (cxZ xbd) xog (q:=qNs [0,5,0,7,0,0,11,0,5,0,0,0,6,0,6,0,5,0,0,0,0,7,0,0,10,0,0,0,0,0,0,0,0,0,0,0,0,6,0,3]) (c:=(cnT::cnT::cnT::cnT::Cnd.same (AV.slice (some (2,0)) a none) (AV.slice (some (2,0)) a none)::Cnd.same (AV.slice (some (2,0)) a none) (AV.slice (some (2,0)) a none)::Cnd.same (AV.str w) (AV.str w)::Cnd.same (AV.int IntKind.i64 (Int.ofNat at_)) (AV.int IntKind.i64 (Int.ofNat at_))::Cnd.same (AV.agg [AV.int IntKind.u64 (Int.ofNat (kept (xdb (List.drop at_ w))))]) (AV.agg [AV.int IntKind.u64 (Int.ofNat (kept (xdb (List.drop at_ w))))])::cnT::cnT::cnT::cnT::cnT::cnT::cnT::Cnd.same (AV.slice (some (3,0)) d none) (AV.slice (some (3,0)) d none)::Cnd.same (AV.str w) (AV.str w)::Cnd.same (AV.int IntKind.i64 (Int.ofNat at_)) (AV.int IntKind.i64 (Int.ofNat at_))::Cnd.same (AV.int IntKind.i64 (xaf IntKind.i64 ((Int.ofNat at_).add (Int.ofNat 4)))) (AV.int IntKind.i64 (xaf IntKind.i64 ((Int.ofNat at_).add (Int.ofNat 4))))::Cnd.same (AV.int IntKind.i64 (Int.ofNat at_)) (AV.int IntKind.i64 (Int.ofNat at_))::Cnd.same (AV.int IntKind.i64 (Int.ofNat sz)) (AV.int IntKind.i64 (Int.ofNat sz))::Cnd.same (AV.int IntKind.i64 (xaf IntKind.i64 ((Int.ofNat at_).add (Int.ofNat sz)))) (AV.int IntKind.i64 (xaf IntKind.i64 ((Int.ofNat at_).add (Int.ofNat sz))))::cnT::cnT::cnT::cnT::Cnd.same (AV.str (List.take ((xaf IntKind.i64 ((Int.ofNat at_).add (Int.ofNat sz))).toNat - (xaf IntKind.i64 ((Int.ofNat at_).add (Int.ofNat 4))).toNat) (List.drop (xaf IntKind.i64 ((Int.ofNat at_).add (Int.ofNat 4))).toNat w))) (AV.str (List.take ((xaf IntKind.i64 ((Int.ofNat at_).add (Int.ofNat sz))).toNat - (xaf IntKind.i64 ((Int.ofNat at_).add (Int.ofNat 4))).toNat) (List.drop (xaf IntKind.i64 ((Int.ofNat at_).add (Int.ofNat 4))).toNat w)))::Cnd.same (AV.agg [AV.str (List.take ((xaf IntKind.i64 ((Int.ofNat at_).add (Int.ofNat sz))).toNat - (xaf IntKind.i64 ((Int.ofNat at_).add (Int.ofNat 4))).toNat) (List.drop (xaf IntKind.i64 ((Int.ofNat at_).add (Int.ofNat 4))).toNat w))]) (AV.agg [AV.str (List.take ((xaf IntKind.i64 ((Int.ofNat at_).add (Int.ofNat sz))).toNat - (xaf IntKind.i64 ((Int.ofNat at_).add (Int.ofNat 4))).toNat) (List.drop (xaf IntKind.i64 ((Int.ofNat at_).add (Int.ofNat 4))).toNat w))])::[])) (cq:=[true,true,true,true,true,true,true,AV.plainL (xs++[AV.int IntKind.u64 (Int.ofNat (kept (xdb (List.drop at_ w))))]),true,AV.plainL (ys++[AV.str (List.take ((xaf IntKind.i64 ((Int.ofNat at_).add (Int.ofNat sz))).toNat - (xaf IntKind.i64 ((Int.ofNat at_).add (Int.ofNat 4))).toNat) (List.drop (xaf IntKind.i64 ((Int.ofNat at_).add (Int.ofNat 4))).toNat w))])]) (by kernel_rfl) ⟨h0,h1,h2,h3,rfl,rfl,rfl,rfl,rfl,h4,h5,h6,h7,h8,h9,h10,rfl,rfl,rfl,rfl,rfl,rfl,rfl,h5,h6,h7,h8,rfl,rfl,trivial⟩ (xci ⟨rfl,rfl,rfl,rfl,rfl,rfl,rfl,h11,rfl,h12,trivial⟩) (by kernel_rfl) (by kernel_rfl) (by kernel_rfl) (by kernel_rfl) (by kernel_rfl)
theorem qB3_e (o:Int) (w:List UInt8) (sz:Nat) (at_:Nat) (a:Nat) (a':Nat) (xs:List AV) (h0:(xak (Int.ofNat at_) (Int.ofNat w.length))=false) (h1:(AV.plainL xs)=true) :
 xbb Try.prog (xdi tys) 97 2 (xbj (xbg Try.f61 1)) { fr:=xar 97 ([0,2,4,5,6].zip [.str w, .ptr (some (0,0)), .ptr (some (1,0)), .int .i64 (Int.ofNat sz), .int .i64 (Int.ofNat at_)]),ds:=xdp 0,H:=mkL [.cells true 108 7 [.int .u8 (Int.ofNat 0), .int .u8 (Int.ofNat 0), .int .u8 (Int.ofNat 0), .int .u64 (Int.ofNat 0), .int .u8 (Int.ofNat 0), .slice none 0 (some 0), .slice none 0 (some 0)], .cells true 108 7 [.int .u8 o, .int .u8 (Int.ofNat 0), .int .u8 (Int.ofNat 0), .int .u64 (Int.ofNat 0), .int .u8 (Int.ofNat 0), .slice (some (2,0)) a none, .slice none 0 (some 0)], .cells true 22 a' xs] } (AX.exit 1) ⟨xar 97 ([0,2,4,5,6].zip [.str w, .ptr (some (0,0)), .ptr (some (1,0)), .int .i64 (Int.ofNat sz), .int .i64 (Int.ofNat at_)]),xdp 0,mkL [.cells true 108 7 [.int .u8 (Int.ofNat 0), .int .u8 (Int.ofNat 0), .int .u8 (Int.ofNat 0), .int .u64 (Int.ofNat 0), .int .u8 (Int.ofNat 0), .slice none 0 (some 0), .slice none 0 (some 0)], .cells true 108 7 [.int .u8 o, .int .u8 (Int.ofNat 0), .int .u8 (Int.ofNat 0), .int .u64 (Int.ofNat 0), .int .u8 (Int.ofNat 0), .slice (some (2,0)) a none, .slice none 0 (some 0)], .cells true 22 a' xs]⟩ :=
 xbh (g:=30) (k:=61) (f:=30) (sl:=[0,2,4,5,6]) (ks:=[0,1,2]) (rs:=[]) (ds:=[]) (cxZ xbd) xog (q:=qNs [1]) (c:=(cnF::[])) (cq:=[true,true,true,true,true,true,AV.plainL xs]) (by kernel_rfl) ⟨h0,trivial⟩ (xci ⟨rfl,rfl,rfl,rfl,rfl,rfl,h1,trivial⟩) (by kernel_rfl) (by kernel_rfl) (by kernel_rfl) (by kernel_rfl) (by kernel_rfl)
theorem qB3_3 (o:Int) (w:List UInt8) (sz:Nat) (at_:Nat) (a:Nat) (a':Nat) (xs:List AV) (h0:(xak (Int.ofNat at_) (Int.ofNat w.length))=true) (h1:((at_+4).ble w.length)=true) (h2:(xch 8 a 1)=true) (h3:(a'.beq (a*1))=true) (h4:(xae (AV.int IntKind.u8 o).intOf (Int.ofNat 2))=false) (h5:(AV.plainL (xs++[AV.int IntKind.u64 (Int.ofNat (kept (xdb (List.drop at_ w))))]))=true) :
 xbb Try.prog (xdi tys) 97 2 (xbj (xbg Try.f61 1)) { fr:=xar 97 ([0,2,4,5,6].zip [.str w, .ptr (some (0,0)), .ptr (some (1,0)), .int .i64 (Int.ofNat sz), .int .i64 (Int.ofNat at_)]),ds:=xdp 0,H:=mkL [.cells true 108 7 [.int .u8 (Int.ofNat 0), .int .u8 (Int.ofNat 0), .int .u8 (Int.ofNat 0), .int .u64 (Int.ofNat 0), .int .u8 (Int.ofNat 0), .slice none 0 (some 0), .slice none 0 (some 0)], .cells true 108 7 [.int .u8 o, .int .u8 (Int.ofNat 0), .int .u8 (Int.ofNat 0), .int .u64 (Int.ofNat 0), .int .u8 (Int.ofNat 0), .slice (some (2,0)) a none, .slice none 0 (some 0)], .cells true 22 a' xs] } (AX.normal) ⟨xar 97 ([0,2,4,5,6].zip [.str w, .ptr (some (0,0)), .ptr (some (1,0)), .int .i64 (Int.ofNat sz), .int .i64 (xaf IntKind.i64 ((Int.ofNat at_).add (Int.ofNat sz)))]),xdp 0,mkL [.cells true 108 7 [.int .u8 (Int.ofNat 0), .int .u8 (Int.ofNat 0), .int .u8 (Int.ofNat 0), .int .u64 (Int.ofNat 0), .int .u8 (Int.ofNat 0), .slice none 0 (some 0), .slice none 0 (some 0)], .cells true 108 7 [.int .u8 o, .int .u8 (Int.ofNat 0), .int .u8 (Int.ofNat 0), .int .u64 (Int.ofNat 0), .int .u8 (Int.ofNat 0), .slice (some (2,0)) (a+1) none, .slice none 0 (some 0)], .cells true 22 (xs++[AV.int IntKind.u64 (Int.ofNat (kept (xdb (List.drop at_ w))))]).length (xs++[AV.int IntKind.u64 (Int.ofNat (kept (xdb (List.drop at_ w))))])]⟩ :=
 xbh (g:=30) (k:=61) (f:=30) (sl:=[0,2,4,5,6]) (ks:=[0,1,4]) (rs:=[]) (ds:=[]) (cxZ xbd) xog (q:=qNs [0,5,0,7,0,0,11,0,5,0,0,0,6,0,6,1]) (c:=(cnT::cnT::cnT::cnT::Cnd.same (AV.slice (some (2,0)) a none) (AV.slice (some (2,0)) a none)::Cnd.same (AV.slice (some (2,0)) a none) (AV.slice (some (2,0)) a none)::Cnd.same (AV.str w) (AV.str w)::Cnd.same (AV.int IntKind.i64 (Int.ofNat at_)) (AV.int IntKind.i64 (Int.ofNat at_))::Cnd.same (AV.agg [AV.int IntKind.u64 (Int.ofNat (kept (xdb (List.drop at_ w))))]) (AV.agg [AV.int IntKind.u64 (Int.ofNat (kept (xdb (List.drop at_ w))))])::cnF::[])) (cq:=[true,true,true,true,true,true,AV.plainL (xs++[AV.int IntKind.u64 (Int.ofNat (kept (xdb (List.drop at_ w))))])]) (by kernel_rfl) ⟨h0,h1,h2,h3,rfl,rfl,rfl,rfl,rfl,h4,trivial⟩ (xci ⟨rfl,rfl,rfl,rfl,rfl,rfl,h5,trivial⟩) (by kernel_rfl) (by kernel_rfl) (by kernel_rfl) (by kernel_rfl) (by kernel_rfl)
def qqT:List AV × List Blk → Bool:=fun x=>match x.1 with
 | [.str w,_,_,_,_]=>Nat.beq w.length 2
 | _=>false
def qqU:List AV × List Blk → Bool:=fun x=>match x.2 with
 | .cells _ _ _ _::.cells _ _ _ (.int .u8 o::_)::_=>xae o (Int.ofNat 2)
 | _=>false
def qq0:List AV × List Blk → Option (List Bool × AX × List AV × List Blk):=fun x=>match x with
 | ([.str w, .ptr (some (0,0)), .ptr (some (1,0)), .int .i64 (.ofNat sz), .int .i64 (.ofNat at_)],[.cells true 108 7 [.int .u8 (.ofNat 0), .int .u8 (.ofNat 0), .int .u8 (.ofNat 0), .int .u64 (.ofNat 0), .int .u8 (.ofNat 0), .slice none 0 (some 0), .slice none 0 (some 0)], .cells true 108 7 [.int .u8 o, .int .u8 (.ofNat 0), .int .u8 (.ofNat 0), .int .u64 (.ofNat 0), .int .u8 (.ofNat 0), .slice none 0 (some 0), .slice none 0 (some 0)]])=>some ([Nat.beq at_ 2,Nat.beq w.length 2], .normal,[.str w, .ptr (some (0,0)), .ptr (some (1,0)), .int .i64 (Int.ofNat sz), .int .i64 (Int.ofNat w.length)],[.cells true 108 7 [.int .u8 (Int.ofNat 0), .int .u8 (Int.ofNat 0), .int .u8 (Int.ofNat 0), .int .u64 (Int.ofNat 0), .int .u8 (Int.ofNat 0), .slice none 0 (some 0), .slice none 0 (some 0)], .cells true 108 7 [.int .u8 o, .int .u8 (Int.ofNat 0), .int .u8 (Int.ofNat 0), .int .u64 (Int.ofNat 0), .int .u8 (Int.ofNat 0), .slice none 0 (some 0), .slice none 0 (some 0)]])
 | _=>none
def qq2:List AV × List Blk → Option (List Bool × AX × List AV × List Blk):=fun x=>match x with
 | ([.str w, .ptr (some (0,0)), .ptr (some (1,0)), .int .i64 (.ofNat sz), .int .i64 (.ofNat at_)],[.cells true 108 7 [.int .u8 (.ofNat 0), .int .u8 (.ofNat 0), .int .u8 (.ofNat 0), .int .u64 (.ofNat 0), .int .u8 (.ofNat 0), .slice none 0 (some 0), .slice none 0 (some 0)], .cells true 108 7 [.int .u8 o, .int .u8 (.ofNat 0), .int .u8 (.ofNat 0), .int .u64 (.ofNat 0), .int .u8 (.ofNat 0), .slice none 0 (some 0), .slice none 0 (some 0)]])=>some ([Nat.beq at_ 2,Nat.beq sz (xet o),Nat.ble w.length 100000,Nat.beq w.length (2+xee o w*xet o),Nat.ble 1 (xee o w),xae o (Int.ofNat 2)], .normal,[.str w, .ptr (some (0,0)), .ptr (some (1,0)), .int .i64 (Int.ofNat sz), .int .i64 (Int.ofNat w.length)],[.cells true 108 7 [.int .u8 (Int.ofNat 0), .int .u8 (Int.ofNat 0), .int .u8 (Int.ofNat 0), .int .u64 (Int.ofNat 0), .int .u8 (Int.ofNat 0), .slice none 0 (some 0), .slice none 0 (some 0)], .cells true 108 7 [.int .u8 o, .int .u8 (Int.ofNat 0), .int .u8 (Int.ofNat 0), .int .u64 (Int.ofNat 0), .int .u8 (Int.ofNat 0), .slice (some (2,0)) (kept (xee o w)) none, .slice (some (3,0)) (kept (xee o w)) none], .cells true 22 (kept (xee o w)) (kept (xbs .u64 (pA o (w.drop 2) true (xee o w)))), .cells true 9 (kept (xee o w)) (kept (encS (pD o (w.drop 2) true (xee o w))))])
 | _=>none
def qq3:List AV × List Blk → Option (List Bool × AX × List AV × List Blk):=fun x=>match x with
 | ([.str w, .ptr (some (0,0)), .ptr (some (1,0)), .int .i64 (.ofNat sz), .int .i64 (.ofNat at_)],[.cells true 108 7 [.int .u8 (.ofNat 0), .int .u8 (.ofNat 0), .int .u8 (.ofNat 0), .int .u64 (.ofNat 0), .int .u8 (.ofNat 0), .slice none 0 (some 0), .slice none 0 (some 0)], .cells true 108 7 [.int .u8 o, .int .u8 (.ofNat 0), .int .u8 (.ofNat 0), .int .u64 (.ofNat 0), .int .u8 (.ofNat 0), .slice none 0 (some 0), .slice none 0 (some 0)]])=>some ([Nat.beq at_ 2,Nat.beq sz (xet o),Nat.ble w.length 100000,Nat.beq w.length (2+xee o w*xet o),Nat.ble 1 (xee o w),!xae o (Int.ofNat 2)], .normal,[.str w, .ptr (some (0,0)), .ptr (some (1,0)), .int .i64 (Int.ofNat sz), .int .i64 (Int.ofNat w.length)],[.cells true 108 7 [.int .u8 (Int.ofNat 0), .int .u8 (Int.ofNat 0), .int .u8 (Int.ofNat 0), .int .u64 (Int.ofNat 0), .int .u8 (Int.ofNat 0), .slice none 0 (some 0), .slice none 0 (some 0)], .cells true 108 7 [.int .u8 o, .int .u8 (Int.ofNat 0), .int .u8 (Int.ofNat 0), .int .u64 (Int.ofNat 0), .int .u8 (Int.ofNat 0), .slice (some (2,0)) (kept (xee o w)) none, .slice none 0 (some 0)], .cells true 22 (kept (xee o w)) (kept (xbs .u64 (pA o (w.drop 2) true (xee o w))))])
 | _=>none
def qqL:ZLT:=⟨97,xbg Try.f61 1,[0,2,4,5,6],0,[], .node qqT (.leaf qq0) (.node qqU (.leaf qq2) (.leaf qq3))⟩
def qq2E (o:Int) (w:List UInt8) (sz:Nat) (i:Nat):ZSt:=match i with
 | 0=>([.str w, .ptr (some (0,0)), .ptr (some (1,0)), .int .i64 (Int.ofNat sz), .int .i64 (Int.ofNat 2)],[.cells true 108 7 [.int .u8 (Int.ofNat 0), .int .u8 (Int.ofNat 0), .int .u8 (Int.ofNat 0), .int .u64 (Int.ofNat 0), .int .u8 (Int.ofNat 0), .slice none 0 (some 0), .slice none 0 (some 0)], .cells true 108 7 [.int .u8 o, .int .u8 (Int.ofNat 0), .int .u8 (Int.ofNat 0), .int .u64 (Int.ofNat 0), .int .u8 (Int.ofNat 0), .slice none 0 (some 0), .slice none 0 (some 0)]])
 | j+1=>([.str w, .ptr (some (0,0)), .ptr (some (1,0)), .int .i64 (Int.ofNat sz), .int .i64 (Int.ofNat (2+(j+1)*444))],[.cells true 108 7 [.int .u8 (Int.ofNat 0), .int .u8 (Int.ofNat 0), .int .u8 (Int.ofNat 0), .int .u64 (Int.ofNat 0), .int .u8 (Int.ofNat 0), .slice none 0 (some 0), .slice none 0 (some 0)], .cells true 108 7 [.int .u8 o, .int .u8 (Int.ofNat 0), .int .u8 (Int.ofNat 0), .int .u64 (Int.ofNat 0), .int .u8 (Int.ofNat 0), .slice (some (2,0)) (j+1) none, .slice (some (3,0)) (j+1) none], .cells true 22 (j+1) (xbs .u64 (pA o (w.drop 2) true (j+1))), .cells true 9 (j+1) (encS (pD o (w.drop 2) true (j+1)))])
theorem qq2E_some (o:Int) (w:List UInt8) (sz:Nat) (i:Nat) (h:i ≠ 0):qq2E o w sz i=([.str w, .ptr (some (0,0)), .ptr (some (1,0)), .int .i64 (Int.ofNat sz), .int .i64 (Int.ofNat (2+i*444))],[.cells true 108 7 [.int .u8 (Int.ofNat 0), .int .u8 (Int.ofNat 0), .int .u8 (Int.ofNat 0), .int .u64 (Int.ofNat 0), .int .u8 (Int.ofNat 0), .slice none 0 (some 0), .slice none 0 (some 0)], .cells true 108 7 [.int .u8 o, .int .u8 (Int.ofNat 0), .int .u8 (Int.ofNat 0), .int .u64 (Int.ofNat 0), .int .u8 (Int.ofNat 0), .slice (some (2,0)) i none, .slice (some (3,0)) i none], .cells true 22 i (xbs .u64 (pA o (w.drop 2) true i)), .cells true 9 i (encS (pD o (w.drop 2) true i))]):=by
 cases i with
 | zero=>exact absurd rfl h
 | succ j=>rfl
def qq3E (o:Int) (w:List UInt8) (sz:Nat) (i:Nat):ZSt:=match i with
 | 0=>([.str w, .ptr (some (0,0)), .ptr (some (1,0)), .int .i64 (Int.ofNat sz), .int .i64 (Int.ofNat 2)],[.cells true 108 7 [.int .u8 (Int.ofNat 0), .int .u8 (Int.ofNat 0), .int .u8 (Int.ofNat 0), .int .u64 (Int.ofNat 0), .int .u8 (Int.ofNat 0), .slice none 0 (some 0), .slice none 0 (some 0)], .cells true 108 7 [.int .u8 o, .int .u8 (Int.ofNat 0), .int .u8 (Int.ofNat 0), .int .u64 (Int.ofNat 0), .int .u8 (Int.ofNat 0), .slice none 0 (some 0), .slice none 0 (some 0)]])
 | j+1=>([.str w, .ptr (some (0,0)), .ptr (some (1,0)), .int .i64 (Int.ofNat sz), .int .i64 (Int.ofNat (2+(j+1)*4))],[.cells true 108 7 [.int .u8 (Int.ofNat 0), .int .u8 (Int.ofNat 0), .int .u8 (Int.ofNat 0), .int .u64 (Int.ofNat 0), .int .u8 (Int.ofNat 0), .slice none 0 (some 0), .slice none 0 (some 0)], .cells true 108 7 [.int .u8 o, .int .u8 (Int.ofNat 0), .int .u8 (Int.ofNat 0), .int .u64 (Int.ofNat 0), .int .u8 (Int.ofNat 0), .slice (some (2,0)) (j+1) none, .slice none 0 (some 0)], .cells true 22 (j+1) (xbs .u64 (pA o (w.drop 2) true (j+1)))])
theorem qq3E_some (o:Int) (w:List UInt8) (sz:Nat) (i:Nat) (h:i ≠ 0):qq3E o w sz i=([.str w, .ptr (some (0,0)), .ptr (some (1,0)), .int .i64 (Int.ofNat sz), .int .i64 (Int.ofNat (2+i*4))],[.cells true 108 7 [.int .u8 (Int.ofNat 0), .int .u8 (Int.ofNat 0), .int .u8 (Int.ofNat 0), .int .u64 (Int.ofNat 0), .int .u8 (Int.ofNat 0), .slice none 0 (some 0), .slice none 0 (some 0)], .cells true 108 7 [.int .u8 o, .int .u8 (Int.ofNat 0), .int .u8 (Int.ofNat 0), .int .u64 (Int.ofNat 0), .int .u8 (Int.ofNat 0), .slice (some (2,0)) i none, .slice none 0 (some 0)], .cells true 22 i (xbs .u64 (pA o (w.drop 2) true i))]):=by
 cases i with
 | zero=>exact absurd rfl h
 | succ j=>rfl
set_option maxHeartbeats 4000000 in
theorem qqL_ok:qqL.OK Try.prog (xdi tys) (xbz tys) 1:=by
 refine ⟨?_,?_,?_⟩
 · intro vs bs conds X vs' bs' h hc hin
   have h:qq0 (vs,bs)=some (conds,X,vs',bs'):=h
   unfold qq0 at h
   split at h
   · rename_i w sz at_ o he
     injection he with he1 he2
     subst he1;subst he2
     injection h with h;injection h with e1 h;injection h with e2 h;injection h with e3 e4
     subst e1;subst e2;subst e3;subst e4
     simp only [xah] at hc
     obtain ⟨c1,c2,_⟩:=hc
     have c1:=xaj c1
     have c2:=xaj c2
     subst c1
     rw [c2]
     have k0:xak (Int.ofNat 2) (Int.ofNat w.length)=false:=by rw [c2];rfl
     have key:=xbb.loop (P:=Try.prog) (cx:=xdi tys) (nn:=97) (n0:=2) (b:=xbj (xbg Try.f61 1)) (fun _:Unit=>(qqL.at qq0).st ([.str w, .ptr (some (0,0)), .ptr (some (1,0)), .int .i64 (Int.ofNat sz), .int .i64 (Int.ofNat 2)],[.cells true 108 7 [.int .u8 (Int.ofNat 0), .int .u8 (Int.ofNat 0), .int .u8 (Int.ofNat 0), .int .u64 (Int.ofNat 0), .int .u8 (Int.ofNat 0), .slice none 0 (some 0), .slice none 0 (some 0)], .cells true 108 7 [.int .u8 o, .int .u8 (Int.ofNat 0), .int .u8 (Int.ofNat 0), .int .u64 (Int.ofNat 0), .int .u8 (Int.ofNat 0), .slice none 0 (some 0), .slice none 0 (some 0)]]))
      (fun _=>(.exit 1,(qqL.at qq0).st ([.str w, .ptr (some (0,0)), .ptr (some (1,0)), .int .i64 (Int.ofNat sz), .int .i64 (Int.ofNat 2)],[.cells true 108 7 [.int .u8 (Int.ofNat 0), .int .u8 (Int.ofNat 0), .int .u8 (Int.ofNat 0), .int .u64 (Int.ofNat 0), .int .u8 (Int.ofNat 0), .slice none 0 (some 0), .slice none 0 (some 0)], .cells true 108 7 [.int .u8 o, .int .u8 (Int.ofNat 0), .int .u8 (Int.ofNat 0), .int .u64 (Int.ofNat 0), .int .u8 (Int.ofNat 0), .slice none 0 (some 0), .slice none 0 (some 0)]]))) (fun _=>0) (fun _=>.inr ⟨qA_e o w sz 2 k0,by simp⟩) ()
     exact xbb.block 1 key
   · cases h
 · intro vs bs conds X vs' bs' h hc hin
   have h:qq2 (vs,bs)=some (conds,X,vs',bs'):=h
   unfold qq2 at h
   split at h
   · rename_i w sz at_ o he
     injection he with he1 he2
     subst he1;subst he2
     injection h with h;injection h with e1 h;injection h with e2 h;injection h with e3 e4
     subst e1;subst e2;subst e3;subst e4
     simp only [xah] at hc
     obtain ⟨c1,c2,c3,c4,c5,c7,_⟩:=hc
     have c1:=xaj c1
     have c2:=xaj c2
     have c4:=xaj c4
     have c3:=Nat.le_of_ble_eq_true c3
     have c5:=Nat.le_of_ble_eq_true c5
     subst c1
     have o2:o=2:=by rw [xaz,beq_iff_eq] at c7;exact c7
     have s4:xet o=444:=by unfold xet;rw [if_pos o2]
     have k2:xae o (Int.ofNat 2)=true:=c7
     have pd:=pst_doc o w (xee o w) c4
     rw [s4] at c2 c4 pd
     subst c2
     simp only [xab]
     generalize hm:xee o w=m at *
     have key:=xbb.loop (P:=Try.prog) (cx:=xdi tys) (nn:=97) (n0:=2) (b:=xbj (xbg Try.f61 1)) (fun q:{i:Nat // i ≤ m}=>(qqL.at qq2).st (qq2E o w 444 q.1))
      (fun q=>(.exit 1,(qqL.at qq2).st (qq2E o w 444 (m)))) (fun q=>m - q.1) (fun q=>by
      obtain ⟨i,hi⟩:=q
      simp only
      by_cases hlt:i < m
      · refine .inl ⟨⟨i+1,hlt⟩,?_,trivial,by simp only;omega⟩
        have k0:xak (Int.ofNat i) (Int.ofNat (m))=true:=by rw [xat];exact decide_eq_true (by show (i:Int) < ((m:Nat):Int);omega)
        skip
        have z0:(Int.ofNat i).toNat=i:=rfl
        have hpr:=(pd i hi).1
        have im:(i+1)*444 ≤ m*444:=Nat.mul_le_mul_right _ hlt
        have kk:xak (Int.ofNat (2+i*444)) (Int.ofNat w.length)=true:=by rw [xat];exact decide_eq_true (Int.ofNat_lt.2 (by omega))
        have hs:xaf .i64 ((Int.ofNat (2+i*444)).add (Int.ofNat 444))=Int.ofNat (2+(i+1)*444):=by
         have:=xbe .i64 (2+i*444+444) (by show _ < 9223372036854775808;omega)
         rw [show 2+(i+1)*444=2+i*444+444 by omega];exact this
        have h4:xaf .i64 ((Int.ofNat (2+i*444)).add (Int.ofNat 4))=Int.ofNat (2+i*444+4):=xbe .i64 (2+i*444+4) (by show _ < 9223372036854775808;omega)
        have zz:∀ n:Nat,(Int.ofNat n).toNat=n:=fun _=>rfl
        have ea:xbs .u64 (pA o (w.drop 2) true i)++[AV.int .u64 (Int.ofNat (xdb (List.drop (2+i*444) w)))]=xbs .u64 (pA o (w.drop 2) true (i+1)):=by
         have:pA o (w.drop 2) true (i+1)=pA o (w.drop 2) true i++[nuB (List.drop (2+i*444) w)]:=by rw [← hpr];unfold pA pR;simp only [pst];split <;> rfl
         rw [this,← xgl];rfl
        have al:(xbs .u64 (pA o (w.drop 2) true (i+1))).length=i+1:=by rw [xag,xgv]
        have ed:encS (pD o (w.drop 2) true i)++[AV.str (List.take (2+(i+1)*444 - (2+i*444+4)) (List.drop (2+i*444+4) w))]=encS (pD o (w.drop 2) true (i+1)):=by
         have r4:rsB 4 (w.drop (2+i*444))=w.drop (2+i*444+4):=by unfold rsB;rw [if_pos (by rw [List.length_drop];omega),List.drop_drop]
         have t4:tkB 440 (w.drop (2+i*444+4))=List.take (2+(i+1)*444 - (2+i*444+4)) (w.drop (2+i*444+4)):=by
          unfold tkB;rw [if_pos (by rw [List.length_drop];omega)];congr 1;omega
         have:pD o (w.drop 2) true (i+1)=pD o (w.drop 2) true i++[tkB 440 (rsB 4 (pR o (w.drop 2) true i))]:=by unfold pD pR;simp only [pst,if_pos o2]
         rw [this,hpr,r4,t4,xnr]
        have dl:(encS (pD o (w.drop 2) true (i+1))).length=i+1:=by rw [xaq,show o=2 from o2,xro]
        cases i with
        | zero =>
         have ea:[AV.int .u64 (Int.ofNat (xdb (List.drop 2 w)))]=xbs .u64 (pA o (w.drop 2) true (0+1)):=ea
         have ed:[AV.str (List.take (2+(0+1)*444 - (2+4)) (List.drop (2+4) w))]=encS (pD o (w.drop 2) true (0+1)):=ed
         have kk:xak (Int.ofNat 2) (Int.ofNat w.length)=true:=kk
         have hs:xaf .i64 ((Int.ofNat 2).add (Int.ofNat 444))=Int.ofNat (2+(0+1)*444):=hs
         have h4:xaf .i64 ((Int.ofNat 2).add (Int.ofNat 4))=Int.ofNat (2+4):=h4
         have key:=qA_2 o w 444 2
         iterate 7
          replace key:=key (by
           (try simp only [xab,AV.intOf,kk,k2,hs,h4,zz,Nat.mul_one,ea,al,ed,dl])
           first
            | done
            | with_reducible rfl
            | with_reducible exact xaw _ _
            | with_reducible exact xbm _
            | with_reducible exact room8b (by omega)
            | with_reducible exact xuj (by omega)
            | (rw [xbq];exact decide_eq_true (by omega))
            | (rw [xax];exact decide_eq_true (Int.ofNat_le.2 (by omega)))
            | (simp [xbn,xbq];done))
         simp only [xab,AV.intOf,kk,k2,hs,h4,zz,Nat.mul_one,ea,al,ed,dl] at key
         exact key
        | succ j =>
         have key:=qB2_2 o w 444 (2+(j+1)*444) (j+1) (j+1) (j+1) (j+1) (xbs .u64 (pA o (w.drop 2) true (j+1))) (encS (pD o (w.drop 2) true (j+1)))
         iterate 13
          replace key:=key (by
           (try simp only [xab,AV.intOf,kk,k2,hs,h4,zz,Nat.mul_one,ea,al,ed,dl])
           first
            | done
            | with_reducible rfl
            | with_reducible exact xaw _ _
            | with_reducible exact xbm _
            | with_reducible exact room8b (by omega)
            | with_reducible exact xuj (by omega)
            | (rw [xbq];exact decide_eq_true (by omega))
            | (rw [xax];exact decide_eq_true (Int.ofNat_le.2 (by omega)))
            | (simp [xbn,xbq];done))
         simp only [xab,AV.intOf,kk,k2,hs,h4,zz,Nat.mul_one,ea,al,ed,dl] at key
         exact key
      · have hi:m=i:=by omega
        subst hi
        refine .inr ⟨?_,by simp⟩
        have k0:xak (Int.ofNat (m)) (Int.ofNat (m))=false:=by rw [xat];exact decide_eq_false (by show ¬ ((m:Nat):Int) < ((m:Nat):Int);omega)
        rw [qq2E_some o w 444 _ (by omega)]
        exact qB2_e o w 444 (2+m*444) m m m m (xbs .u64 (pA o (w.drop 2) true m)) (encS (pD o (w.drop 2) true m)) (by rw [xat];exact decide_eq_false (fun h=>by have:=Int.ofNat_lt.1 h;omega)) (xaw _ _) (xbm _)) ⟨0,Nat.zero_le _⟩
     rw [qq2E_some o w 444 m (by omega),← c4] at key
     exact xbb.block 1 key
   · cases h
 · intro vs bs conds X vs' bs' h hc hin
   have h:qq3 (vs,bs)=some (conds,X,vs',bs'):=h
   unfold qq3 at h
   split at h
   · rename_i w sz at_ o he
     injection he with he1 he2
     subst he1;subst he2
     injection h with h;injection h with e1 h;injection h with e2 h;injection h with e3 e4
     subst e1;subst e2;subst e3;subst e4
     simp only [xah] at hc
     obtain ⟨c1,c2,c3,c4,c5,c7,_⟩:=hc
     have c1:=xaj c1
     have c2:=xaj c2
     have c4:=xaj c4
     have c3:=Nat.le_of_ble_eq_true c3
     have c5:=Nat.le_of_ble_eq_true c5
     subst c1
     have o2:o ≠ 2:=by rw [Bool.not_eq_true',xaz,beq_eq_false_iff_ne] at c7;exact c7
     have s4:xet o=4:=by unfold xet;rw [if_neg o2]
     have k2:xae o (Int.ofNat 2)=false:=by rw [xaz];exact beq_eq_false_iff_ne.2 o2
     have pd:=pst_doc o w (xee o w) c4
     rw [s4] at c2 c4 pd
     subst c2
     simp only [xab]
     generalize hm:xee o w=m at *
     have key:=xbb.loop (P:=Try.prog) (cx:=xdi tys) (nn:=97) (n0:=2) (b:=xbj (xbg Try.f61 1)) (fun q:{i:Nat // i ≤ m}=>(qqL.at qq3).st (qq3E o w 4 q.1))
      (fun q=>(.exit 1,(qqL.at qq3).st (qq3E o w 4 (m)))) (fun q=>m - q.1) (fun q=>by
      obtain ⟨i,hi⟩:=q
      simp only
      by_cases hlt:i < m
      · refine .inl ⟨⟨i+1,hlt⟩,?_,trivial,by simp only;omega⟩
        have k0:xak (Int.ofNat i) (Int.ofNat (m))=true:=by rw [xat];exact decide_eq_true (by show (i:Int) < ((m:Nat):Int);omega)
        skip
        have z0:(Int.ofNat i).toNat=i:=rfl
        have hpr:=(pd i hi).1
        have im:(i+1)*4 ≤ m*4:=Nat.mul_le_mul_right _ hlt
        have kk:xak (Int.ofNat (2+i*4)) (Int.ofNat w.length)=true:=by rw [xat];exact decide_eq_true (Int.ofNat_lt.2 (by omega))
        have hs:xaf .i64 ((Int.ofNat (2+i*4)).add (Int.ofNat 4))=Int.ofNat (2+(i+1)*4):=by
         have:=xbe .i64 (2+i*4+4) (by show _ < 9223372036854775808;omega)
         rw [show 2+(i+1)*4=2+i*4+4 by omega];exact this
        have h4:xaf .i64 ((Int.ofNat (2+i*4)).add (Int.ofNat 4))=Int.ofNat (2+i*4+4):=xbe .i64 (2+i*4+4) (by show _ < 9223372036854775808;omega)
        have zz:∀ n:Nat,(Int.ofNat n).toNat=n:=fun _=>rfl
        have ea:xbs .u64 (pA o (w.drop 2) true i)++[AV.int .u64 (Int.ofNat (xdb (List.drop (2+i*4) w)))]=xbs .u64 (pA o (w.drop 2) true (i+1)):=by
         have:pA o (w.drop 2) true (i+1)=pA o (w.drop 2) true i++[nuB (List.drop (2+i*4) w)]:=by rw [← hpr];unfold pA pR;simp only [pst];split <;> rfl
         rw [this,← xgl];rfl
        have al:(xbs .u64 (pA o (w.drop 2) true (i+1))).length=i+1:=by rw [xag,xgv]
        cases i with
        | zero =>
         have ea:[AV.int .u64 (Int.ofNat (xdb (List.drop 2 w)))]=xbs .u64 (pA o (w.drop 2) true (0+1)):=ea
         have kk:xak (Int.ofNat 2) (Int.ofNat w.length)=true:=kk
         have hs:xaf .i64 ((Int.ofNat 2).add (Int.ofNat 4))=Int.ofNat (2+(0+1)*4):=hs
         have h4:xaf .i64 ((Int.ofNat 2).add (Int.ofNat 4))=Int.ofNat (2+4):=h4
         have key:=qA_3 o w 4 2
         iterate 3
          replace key:=key (by
           (try simp only [xab,AV.intOf,kk,k2,hs,h4,zz,Nat.mul_one,ea,al])
           first
            | done
            | with_reducible rfl
            | with_reducible exact xaw _ _
            | with_reducible exact xbm _
            | with_reducible exact room8b (by omega)
            | with_reducible exact xuj (by omega)
            | (rw [xbq];exact decide_eq_true (by omega))
            | (rw [xax];exact decide_eq_true (Int.ofNat_le.2 (by omega)))
            | (simp [xbn,xbq];done))
         simp only [xab,AV.intOf,kk,k2,hs,h4,zz,Nat.mul_one,ea,al] at key
         exact key
        | succ j =>
         have key:=qB3_3 o w 4 (2+(j+1)*4) (j+1) (j+1) (xbs .u64 (pA o (w.drop 2) true (j+1)))
         iterate 6
          replace key:=key (by
           (try simp only [xab,AV.intOf,kk,k2,hs,h4,zz,Nat.mul_one,ea,al])
           first
            | done
            | with_reducible rfl
            | with_reducible exact xaw _ _
            | with_reducible exact xbm _
            | with_reducible exact room8b (by omega)
            | with_reducible exact xuj (by omega)
            | (rw [xbq];exact decide_eq_true (by omega))
            | (rw [xax];exact decide_eq_true (Int.ofNat_le.2 (by omega)))
            | (simp [xbn,xbq];done))
         simp only [xab,AV.intOf,kk,k2,hs,h4,zz,Nat.mul_one,ea,al] at key
         exact key
      · have hi:m=i:=by omega
        subst hi
        refine .inr ⟨?_,by simp⟩
        have k0:xak (Int.ofNat (m)) (Int.ofNat (m))=false:=by rw [xat];exact decide_eq_false (by show ¬ ((m:Nat):Int) < ((m:Nat):Int);omega)
        rw [qq3E_some o w 4 _ (by omega)]
        exact qB3_e o w 4 (2+m*4) m m (xbs .u64 (pA o (w.drop 2) true m)) (by rw [xat];exact decide_eq_false (fun h=>by have:=Int.ofNat_lt.1 h;omega)) (xaw _ _)) ⟨0,Nat.zero_le _⟩
     rw [qq3E_some o w 4 m (by omega),← c4] at key
     exact xbb.block 1 key
   · cases h
end Go.Proofs.Ytecncappdnhbaaa
end
end

section
noncomputable section
namespace Go.Proofs.Ytecncappdnhbaaa
open Go.Ab.M Go.Ab Go
def K10z:xem:={ t:=[(99,numD.rt),(59,docR.rt)],l:=[((61,1),qqL)] }
theorem K10z_ok:KOK Try.prog tys K10z:=⟨⟨xcf.rt_sound numD_ok,xcf.rt_sound docR_ok,trivial⟩,trivial,trivial,trivial,⟨qqL_ok,trivial⟩⟩
abbrev xmp:=xdt tys fns K10z
theorem all10z:xcy Try.prog xmp:=xdw K10z_ok
end Go.Proofs.Ytecncappdnhbaaa
end
end

section
noncomputable section
namespace Go.Ab
open M
theorem xho (l:List (List UInt8)):xjd (enD l)=l:=by
 unfold xjd enD;rw [xcw,List.map_map]
 conv=>rhs;rw [← List.map_id l]
 exact List.map_congr_left fun x _=>rfl
theorem okT_okD (ds:List (Bool × List UInt8)):okT xdd (encS (ds.map Prod.snd))=okD xdd (xcu ds):=by
 unfold okT okD encS xcu
 rw [List.all_map,List.all_map,List.all_map];rfl
theorem docB_yes {op sub pl fi ct:Int} {zs:List UInt32} {ds:List (Bool × List UInt8)} (h:xbi op sub pl fi ct zs.length ds.length (xcu ds)=true):xeb op sub pl fi ct zs.length ds.length zs (ds.map Prod.snd)=xgd op sub pl fi ct zs (ds.map Prod.snd):=by
 unfold xbi at h
 rw [Bool.and_eq_true,decide_eq_true_eq] at h
 unfold xeb;rw [if_pos ⟨h.1,by rw [okT_okD];exact h.2⟩]
end Go.Ab
namespace Go.Proofs.Ytecncappdnhbaaa
open Go.Ab.M Go.Ab Go
section
variable (op sub pl fi ct:Int) (ln dn:Nat) (lv dv:List AV)
end
end Go.Proofs.Ytecncappdnhbaaa
end
end

section
noncomputable section
namespace Go.Ab
namespace M
structure DQ where
 z:Bool
 op:Nat
 sub:Nat
 pl:Nat
 fi:Nat
 ct:Nat
 a:List UInt32
 d:List (List UInt8)
def byD (w:List UInt8) (i:Nat):Nat:=((w[i]?).getD 0).toNat
def dZ0:DQ:=⟨true,0,0,0,0,0,[],[]⟩
def dS (w:List UInt8):DQ :=
 if w=[] then dZ0
 else if byD w 0=1 then if w.length=6 then ⟨false,1,0,0,xdb (w.drop 1),byD w 5,[],[]⟩ else dZ0
 else if byD w 0=2 ∨ byD w 0=3 then
  if 2 ≤ w.length∧w.length=2+byD w 1*xet (Int.ofNat (byD w 0)) then ⟨false,byD w 0,0,0,0,0,pA (Int.ofNat (byD w 0)) (w.drop 2) true (xee (Int.ofNat (byD w 0)) w),pD (Int.ofNat (byD w 0)) (w.drop 2) true (xee (Int.ofNat (byD w 0)) w)⟩ else dZ0
 else if byD w 0=5 ∨ byD w 0=6 ∨ byD w 0=7 then if w.length=3 then ⟨false,byD w 0,byD w 1,byD w 2,0,0,[],[]⟩ else dZ0
 else ⟨false,byD w 0,0,0,0,0,[],[]⟩
def dB (w:List UInt8):List UInt8:=xeb (Int.ofNat (dS w).op) (Int.ofNat (dS w).sub) (Int.ofNat (dS w).pl) (Int.ofNat (dS w).fi) (Int.ofNat (dS w).ct) (dS w).a.length (dS w).d.length (dS w).a (dS w).d
def dOK (w:List UInt8):Bool:=!(dS w).z && xam (dB w) w
end M
open M Go.Proofs.Ytecncappdnhbaaa
theorem tk_rs (n:Nat) (r:List UInt8) (h:n ≤ r.length):r=tkB n r++rsB n r:=by
 unfold tkB rsB;rw [if_pos h,if_pos h,List.take_append_drop]
theorem hd_rs (r:List UInt8) (h:1 ≤ r.length):r=UInt8.ofNat (hdN r)::rsB 1 r:=by
 cases r with
 | nil=>simp at h
 | cons b l=>rw [xgy,xkl,UInt8.ofNat_toNat]
theorem putB_get4 (l:List UInt8) (h:l.length=4):xdf 4 (xkk l)=l:=by
 have:=putB_getN l
 rw [h] at this;exact this
theorem xqw (op:Int):∀ (zs:List UInt32) (ss xs:List (List UInt8)),zs.length ≤ ss.length → xbw op zs (ss++xs)=xbw op zs ss
 | [],_,_,_=>rfl
 | z::zs,[],_,h=>by simp at h
 | z::zs,s::ss,xs,h=>by
  show xdf 4 z.toNat++((if op=2 then s else [])++xbw op zs (ss++xs))=xdf 4 z.toNat++((if op=2 then s else [])++xbw op zs ss)
  rw [xqw op zs ss xs (by simp at h;exact h)]
theorem pK_true (op:Int) (r0:List UInt8) (k0:Bool):∀ m,pK op r0 k0 m=true → k0=true
 | 0,h=>h
 | m+1,h=>by
  refine pK_true op r0 k0 m ?_
  unfold pK at h ⊢
  simp only [pst] at h
  split at h
  · simp only [Bool.and_eq_true] at h;exact h.1.1
  · simp only [Bool.and_eq_true] at h;exact h.1
theorem nuB_rs (r:List UInt8) (h:4 ≤ r.length):r=xdf 4 (nuB r).toNat++rsB 4 r:=by
 rw [xoe,putB_get4 _ (xfv 4 r)]
 exact tk_rs 4 r h
theorem pst_inv (op:Int) (r0:List UInt8):∀ m,pK op r0 true m=true → r0=xbw op (pA op r0 true m) (pD op r0 true m)++pR op r0 true m∧(op=2 → ∀ d ∈ pD op r0 true m,d.length=440)
 | 0,_=>⟨rfl,fun _ d hd=>by simp [pD,pst] at hd⟩
 | m+1,hk=>by
  have ih:=pst_inv op r0 m
  have la:=xgv op r0 true m
  unfold pK at hk ih;unfold pA pD pR at ih ⊢
  unfold pA at la
  simp only [pst] at hk ⊢
  by_cases ho:op=2
  · rw [if_pos ho] at hk ⊢
    simp only [Bool.and_eq_true] at hk ⊢
    obtain ⟨⟨hk1,hk2⟩,hk3⟩:=hk
    obtain ⟨i1,i2⟩:=ih hk1
    have hk2:=Nat.le_of_ble_eq_true hk2
    have hk3:=Nat.le_of_ble_eq_true hk3
    have ld:(pst op r0 true m).2.2.2.length=m:=by subst ho;exact xro r0 true m
    refine ⟨?_,fun _ d hd=>?_⟩
    · have e1:=nuB_rs _ hk2
      have e2:=tk_rs 440 _ hk3
      rw [xdv,la,if_pos ho,List.getElem?_append_right (by rw [ld];exact Nat.le_refl _),ld,Nat.sub_self]
      have eb:xbw op (pst op r0 true m).2.2.1 ((pst op r0 true m).2.2.2++[tkB 440 (rsB 4 (pst op r0 true m).1)])=xbw op (pst op r0 true m).2.2.1 (pst op r0 true m).2.2.2:=xqw op _ _ _ (by rw [la,ld];exact Nat.le_refl _)
      rw [eb]
      conv=>lhs;rw [i1,e1,e2]
      simp [List.append_assoc]
    · rcases List.mem_append.1 hd with h | h
      · exact i2 ho d h
      · have:d=tkB 440 (rsB 4 (pst op r0 true m).1):=by simpa using h
        rw [this];exact xfv _ _
  · rw [if_neg ho] at hk ⊢
    simp only [Bool.and_eq_true] at hk ⊢
    obtain ⟨hk1,hk2⟩:=hk
    obtain ⟨i1,i2⟩:=ih hk1
    have hk2:=Nat.le_of_ble_eq_true hk2
    refine ⟨?_,fun h=>absurd h ho⟩
    have e1:=nuB_rs _ hk2
    rw [xdv,if_neg ho]
    conv=>lhs;rw [i1,e1]
    simp [List.append_assoc]
theorem oN (n:Nat):(Int.ofNat n).toNat=n:=rfl
theorem nil_of {l:List UInt8} (h:Nat.beq l.length 0=true):l=[]:=List.eq_nil_of_length_eq_zero (xaj h)
set_option maxHeartbeats 1000000 in
theorem parS_inv {w:List UInt8} (h:xbu w=true):w=xgd (Int.ofNat (hdN w)) (Int.ofNat (xmc w)) (Int.ofNat (qPl w)) (Int.ofNat (qFi w)) (Int.ofNat (qCt w)) (qA w) (qD w) ∧
 xbi (Int.ofNat (hdN w)) (Int.ofNat (xmc w)) (Int.ofNat (qPl w)) (Int.ofNat (qFi w)) (Int.ofNat (qCt w)) (qA w).length (qD w).length (enD (qD w))=true:=by
 unfold xbu xqk at h
 rw [Bool.and_eq_true,Bool.and_eq_true] at h
 obtain ⟨hk,hr,hR⟩:=h
 refine ⟨?_,hR⟩
 have hP:=xoa hR
 have hr:=nil_of hr
 unfold xau at hP
 simp only [Int.ofNat_eq_natCast] at hP
 unfold xmc qPl qFi qCt qA qD
 by_cases h1:hdN w=1
 · have eS:xel w=⟨(Nat.ble 1 w.length && Nat.ble 4 (rsB 1 w).length) && Nat.ble 1 (rsB 4 (rsB 1 w)).length,rsB 1 (rsB 4 (rsB 1 w)),0,0,xdb (rsB 1 w),hdN (rsB 4 (rsB 1 w)),[],[]⟩:=by unfold xel;simp only [if_pos h1]
   rw [eS] at hk hr ⊢
   simp only [Bool.and_eq_true] at hk hr ⊢
   have l1:=Nat.le_of_ble_eq_true hk.1.1
   have l2:=Nat.le_of_ble_eq_true hk.1.2
   have l3:=Nat.le_of_ble_eq_true hk.2
   have e1:=hd_rs w l1
   have e2:=nuB_rs _ l2
   have e3:=hd_rs _ l3
   rw [hr] at e3
   unfold xgd
   rw [if_pos (show Int.ofNat (hdN w)=1 by rw [h1];rfl)]
   simp only [oN]
   conv=>lhs;rw [e1,e2,e3]
   rfl
 by_cases h2:hdN w=2 ∨ hdN w=3
 · have eS:xel w=⟨pK (Int.ofNat (hdN w)) (rsB 1 (rsB 1 w)) (Nat.ble 1 w.length && Nat.ble 1 (rsB 1 w).length) (hdN (rsB 1 w)),pR (Int.ofNat (hdN w)) (rsB 1 (rsB 1 w)) (Nat.ble 1 w.length && Nat.ble 1 (rsB 1 w).length) (hdN (rsB 1 w)),0,0,0,0,pA (Int.ofNat (hdN w)) (rsB 1 (rsB 1 w)) (Nat.ble 1 w.length && Nat.ble 1 (rsB 1 w).length) (hdN (rsB 1 w)),pD (Int.ofNat (hdN w)) (rsB 1 (rsB 1 w)) (Nat.ble 1 w.length && Nat.ble 1 (rsB 1 w).length) (hdN (rsB 1 w))⟩:=by
    unfold xel;simp only [if_neg h1,if_pos h2]
   rw [eS] at hk hr ⊢
   simp only at hk hr ⊢
   have k0:=pK_true _ _ _ _ hk
   rw [k0] at hk hr ⊢
   rw [Bool.and_eq_true] at k0
   have l1:=Nat.le_of_ble_eq_true k0.1
   have l2:=Nat.le_of_ble_eq_true k0.2
   have e1:=hd_rs w l1
   have e2:=hd_rs _ l2
   have e3:=(pst_inv _ _ _ hk).1
   rw [hr,List.append_nil] at e3
   unfold xgd
   rw [if_neg (show Int.ofNat (hdN w) ≠ 1 by simp only [Int.ofNat_eq_natCast];omega),if_pos (show Int.ofNat (hdN w)=2 ∨ Int.ofNat (hdN w)=3 by simp only [Int.ofNat_eq_natCast];omega),oN,xgv]
   conv=>lhs;rw [e1,e2,e3]
   rfl
 by_cases h5:hdN w=5 ∨ hdN w=6 ∨ hdN w=7
 · have eS:xel w=⟨(Nat.ble 1 w.length && Nat.ble 1 (rsB 1 w).length) && Nat.ble 1 (rsB 1 (rsB 1 w)).length,rsB 1 (rsB 1 (rsB 1 w)),hdN (rsB 1 w),hdN (rsB 1 (rsB 1 w)),0,0,[],[]⟩:=by unfold xel;simp only [if_neg h1,if_neg h2,if_pos h5]
   rw [eS] at hk hr ⊢
   simp only [Bool.and_eq_true] at hk hr ⊢
   have l1:=Nat.le_of_ble_eq_true hk.1.1
   have l2:=Nat.le_of_ble_eq_true hk.1.2
   have l3:=Nat.le_of_ble_eq_true hk.2
   have e1:=hd_rs w l1
   have e2:=hd_rs _ l2
   have e3:=hd_rs _ l3
   rw [hr] at e3
   unfold xgd
   rw [if_neg (show Int.ofNat (hdN w) ≠ 1 by simp only [Int.ofNat_eq_natCast];omega),if_neg (show ¬ (Int.ofNat (hdN w)=2 ∨ Int.ofNat (hdN w)=3) by simp only [Int.ofNat_eq_natCast];omega),if_neg (show Int.ofNat (hdN w) ≠ 4 by simp only [Int.ofNat_eq_natCast];omega)]
   simp only [oN]
   conv=>lhs;rw [e1,e2,e3]
 · have eS:xel w=⟨Nat.ble 1 w.length,rsB 1 w,0,0,0,0,[],[]⟩:=by unfold xel;simp only [if_neg h1,if_neg h2,if_neg h5]
   rw [eS] at hk hr ⊢
   simp only at hk hr ⊢
   have l1:=Nat.le_of_ble_eq_true hk
   have e1:=hd_rs w l1
   rw [hr] at e1
   unfold xgd
   rw [if_neg (show Int.ofNat (hdN w) ≠ 1 by simp only [Int.ofNat_eq_natCast];omega),if_neg (show ¬ (Int.ofNat (hdN w)=2 ∨ Int.ofNat (hdN w)=3) by simp only [Int.ofNat_eq_natCast];omega),if_pos (show Int.ofNat (hdN w)=4 by simp only [Int.ofNat_eq_natCast];omega),oN]
   exact e1
theorem byD_0 (b:UInt8) (l:List UInt8):byD (b::l) 0=b.toNat:=rfl
theorem byD_s (b:UInt8) (l:List UInt8) (i:Nat):byD (b::l) (i+1)=byD l i:=rfl
set_option maxHeartbeats 1000000 in
theorem dS_req {op sub pl fi ct:Int} {zs:List UInt32} {ds:List (Bool × List UInt8)} (h:xbi op sub pl fi ct zs.length ds.length (xcu ds)=true) (s0:0 ≤ sub) (p0:0 ≤ pl) (p1:pl ≤ 255) (f0:0 ≤ fi) (f1:fi < 4294967296) :
 dS (xgd op sub pl fi ct zs (ds.map Prod.snd))=⟨false,op.toNat,sub.toNat,pl.toNat,fi.toNat,ct.toNat,zs,ds.map Prod.snd⟩:=by
 have hD:=xfd h
 unfold xqt at hD
 have hD:=of_decide_eq_true hD
 have hP:=xoa h
 unfold xau at hP
 have nz:∀ {α:Type} (l:List α),l.length=0 → l=[]:=fun l h=>List.eq_nil_of_length_eq_zero h
 have ob:=xih op (by omega) (by omega)
 by_cases h1:op=1
 · have z0:=nz zs (by omega)
   have d0:=nz ds (by omega)
   subst z0;subst d0
   have cb:=xih ct (by omega) (by omega)
   have p4:(xdf 4 fi.toNat).length=4:=xcv 4 _
   have eq:xgd op sub pl fi ct [] (([]:List (Bool × List UInt8)).map Prod.snd)=UInt8.ofNat op.toNat::(xdf 4 fi.toNat++[UInt8.ofNat ct.toNat]):=by unfold xgd;rw [if_pos h1]
   rw [eq]
   unfold dS
   rw [if_neg (by simp),byD_0,ob,if_pos (by omega),if_pos (by rw [List.length_cons,List.length_append,p4];rfl)]
   have e5:byD (UInt8.ofNat op.toNat::(xdf 4 fi.toNat++[UInt8.ofNat ct.toNat])) 5=ct.toNat:=by
    rw [byD_s]
    unfold byD
    rw [List.getElem?_append_right (by rw [p4];exact Nat.le_refl _),p4]
    exact cb
   rw [e5,show List.drop 1 (UInt8.ofNat op.toNat::(xdf 4 fi.toNat++[UInt8.ofNat ct.toNat]))=xdf 4 fi.toNat++[UInt8.ofNat ct.toNat] from rfl,numN_put _ (by omega),show op.toNat=1 by omega,show sub.toNat=0 by omega,show pl.toNat=0 by omega]
   rfl
 by_cases h23:op=2 ∨ op=3
 · have zb:(UInt8.ofNat zs.length).toNat=zs.length:=by rw [UInt8.toNat_ofNat'];omega
   have eq:xgd op sub pl fi ct zs (ds.map Prod.snd)=UInt8.ofNat op.toNat::UInt8.ofNat zs.length::xbw op zs (ds.map Prod.snd):=by unfold xgd;rw [if_neg h1,if_pos h23];rfl
   rw [eq]
   have oi:Int.ofNat op.toNat=op:=by simp only [Int.ofNat_eq_natCast];omega
   have h440:op=2 → ∀ d ∈ ds.map Prod.snd,d.length=440:=fun ho d hd=>by
    obtain ⟨x,hx,rfl⟩:=List.mem_map.1 hd
    obtain ⟨i,hi⟩:=List.getElem?_of_mem hx
    exact xaj (xnx (hD ho).2 hi)
   have key:=xuo op zs (ds.map Prod.snd) (fun h=>by rw [List.length_map];omega) h440 zs.length (Nat.le_refl _)
   rw [List.take_length] at key
   have bl:(xbw op zs (ds.map Prod.snd)).length=zs.length*xet op:=by
    rw [xgt op zs (ds.map Prod.snd) (fun h=>by rw [List.length_map];omega) (fun ho i d _ hd=>h440 ho d (List.mem_of_getElem? hd))]
    unfold xda xet;split <;> omega
   have sp:0 < xet op:=by unfold xet;split <;> omega
   have wl:(UInt8.ofNat op.toNat::UInt8.ofNat zs.length::xbw op zs (ds.map Prod.snd)).length=2+zs.length*xet op:=by rw [List.length_cons,List.length_cons,bl];omega
   have cn:xee op (UInt8.ofNat op.toNat::UInt8.ofNat zs.length::xbw op zs (ds.map Prod.snd))=zs.length:=by
    unfold xee;rw [wl,Nat.add_sub_cancel_left,Nat.mul_div_cancel _ sp]
   have d2:List.drop 2 (UInt8.ofNat op.toNat::UInt8.ofNat zs.length::xbw op zs (ds.map Prod.snd))=xbw op zs (ds.map Prod.snd):=rfl
   unfold dS
   rw [if_neg (by simp),byD_0,ob,if_neg (by omega),if_pos (show op.toNat=2 ∨ op.toNat=3 by omega),byD_s,byD_0,zb,oi,if_pos ⟨by rw [wl];omega,wl⟩,cn,d2]
   unfold pA pD
   rw [key]
   have ed:(if op=2 then (ds.map Prod.snd).take zs.length else [])=ds.map Prod.snd:=by
    by_cases h2:op=2
    · rw [if_pos h2,List.take_of_length_le (by rw [List.length_map];omega)]
    · rw [if_neg h2,nz ds (by omega)];rfl
   simp only [ed,DQ.mk.injEq,and_true,true_and]
   omega
 have z0:=nz zs (by omega)
 have d0:=nz ds (by omega)
 subst z0;subst d0
 by_cases h4:op=4
 · have eq:xgd op sub pl fi ct [] (([]:List (Bool × List UInt8)).map Prod.snd)=[UInt8.ofNat op.toNat]:=by unfold xgd;rw [if_neg h1,if_neg h23,if_pos h4]
   rw [eq]
   unfold dS
   rw [if_neg (by simp),byD_0,ob,if_neg (by omega),if_neg (by omega),if_neg (by omega),show sub.toNat=0 by omega,show pl.toNat=0 by omega,show fi.toNat=0 by omega,show ct.toNat=0 by omega]
   rfl
 · have eq:xgd op sub pl fi ct [] (([]:List (Bool × List UInt8)).map Prod.snd)=[UInt8.ofNat op.toNat,UInt8.ofNat sub.toNat,UInt8.ofNat pl.toNat]:=by unfold xgd;rw [if_neg h1,if_neg h23,if_neg h4]
   rw [eq]
   have sb:=xih sub (by omega) (by omega)
   have pb:=xih pl (by omega) (by omega)
   unfold dS
   rw [if_neg (by simp),byD_0,ob,if_neg (by omega),if_neg (by omega),if_pos (show op.toNat=5 ∨ op.toNat=6 ∨ op.toNat=7 by omega),if_pos (show [UInt8.ofNat op.toNat,UInt8.ofNat sub.toNat,UInt8.ofNat pl.toNat].length=3 from rfl),byD_s,byD_0,byD_s,byD_s,byD_0,sb,pb,show fi.toNat=0 by omega,show ct.toNat=0 by omega]
   rfl
theorem enD_enc (l:List (List UInt8)):enD l=xcu (l.map fun b=>(false,b)):=rfl
theorem xtr (l:List (List UInt8)):(l.map fun b=>(false,b)).map Prod.snd=l:=by
 rw [List.map_map];conv=>rhs;rw [← List.map_id l]
 exact List.map_congr_left fun x _=>rfl
theorem qPl_le {w:List UInt8}:qPl w ≤ 255:=by
 unfold qPl xel
 have b:∀ r:List UInt8,hdN r ≤ 255:=fun r=>by have:=(hdU r).toNat_lt;unfold hdN;omega
 simp only
 split
 · exact Nat.zero_le _
 · split
   · exact Nat.zero_le _
   · split
     · exact b _
     · exact Nat.zero_le _
theorem qFi_lt {w:List UInt8}:qFi w < 4294967296:=by
 unfold qFi xel
 have b:∀ r:List UInt8,xdb r < 4294967296:=fun r=>(nuB r).toNat_lt
 simp only
 split
 · exact b _
 · split
   · exact Nat.zero_lt_succ _
   · split <;> exact Nat.zero_lt_succ _
theorem dS_ok {w:List UInt8} (h:xbu w=true):dS w=⟨false,hdN w,xmc w,qPl w,qFi w,qCt w,qA w,qD w⟩∧dB w=w∧dOK w=true:=by
 obtain ⟨e,hR⟩:=parS_inv h
 have hR2:xbi (Int.ofNat (hdN w)) (Int.ofNat (xmc w)) (Int.ofNat (qPl w)) (Int.ofNat (qFi w)) (Int.ofNat (qCt w)) (qA w).length ((qD w).map fun b=>(false,b)).length (xcu ((qD w).map fun b=>(false,b)))=true:=by
  rw [List.length_map];exact hR
 have key:=dS_req hR2 (Int.natCast_nonneg _) (Int.natCast_nonneg _) (by have:=qPl_le (w:=w);simp only [Int.ofNat_eq_natCast];omega) (Int.natCast_nonneg _) (by have:=qFi_lt (w:=w);simp only [Int.ofNat_eq_natCast];omega)
 rw [xtr,← e] at key
 have db:=docB_yes hR2
 rw [xtr,List.length_map] at db
 have eb:dB w=w:=by
  unfold dB;rw [key]
  simp only [oN]
  rw [db,← e]
 refine ⟨key,eb,?_⟩
 unfold dOK
 rw [eb,key,xmt];rfl
theorem dOK_par (w:List UInt8):dOK w=xbu w:=by
 cases hp:xbu w with
 | true=>exact (dS_ok hp).2.2
 | false =>
  cases hd:dOK w with
  | false=>rfl
  | true =>
   exfalso
   unfold dOK at hd
   rw [Bool.and_eq_true,xcm,beq_iff_eq] at hd
   obtain ⟨hz,hb⟩:=hd
   have hw:w ≠ []:=fun h=>by
    rw [h] at hz;unfold dS at hz;rw [if_pos rfl] at hz;cases hz
   have hne:dB w ≠ []:=by rw [hb];exact hw
   unfold dB xeb at hne hb
   split at hne
   · rename_i hc
     rw [if_pos hc] at hb
     have hR:xbi (Int.ofNat (dS w).op) (Int.ofNat (dS w).sub) (Int.ofNat (dS w).pl) (Int.ofNat (dS w).fi) (Int.ofNat (dS w).ct) (dS w).a.length ((dS w).d.map fun b=>(false,b)).length (xcu ((dS w).d.map fun b=>(false,b)))=true:=by
      unfold xbi
      rw [List.length_map,decide_eq_true hc.1,← okT_okD,xtr]
      exact hc.2
     have bnd:(dS w).pl ≤ 255∧(dS w).fi < 4294967296:=by
      have b:∀ i,byD w i ≤ 255:=fun i=>by have:=((w[i]?).getD 0).toNat_lt;unfold byD;omega
      have b2:∀ r:List UInt8,xdb r < 4294967296:=fun r=>(nuB r).toNat_lt
      unfold dS dZ0
      repeat' split
      all_goals first
       | exact ⟨Nat.zero_le _,Nat.zero_lt_succ _⟩
       | exact ⟨Nat.zero_le _,b2 _⟩
       | exact ⟨b _,Nat.zero_lt_succ _⟩
     obtain ⟨k1,k2⟩:=parS_req hR (Int.natCast_nonneg _) (Int.natCast_nonneg _) (by simp only [Int.ofNat_eq_natCast];omega) (Int.natCast_nonneg _) (by simp only [Int.ofNat_eq_natCast];omega)
     rw [xtr,hb] at k1 k2
     have:xbu w=true:=by
      unfold xbu xqk
      rw [k2,k1]
      simp only [oN]
      rw [List.length_map] at hR
      rw [show enD (dS w).d=xcu ((dS w).d.map fun b=>(false,b)) from rfl,hR];rfl
     rw [hp] at this;cases this
   · exact hne rfl
end Go.Ab
end
end
