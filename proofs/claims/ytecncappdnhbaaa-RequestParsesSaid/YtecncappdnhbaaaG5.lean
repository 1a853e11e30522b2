/- Texts of the abstract machine and of the laws, merged. -/
import Derived.Test.YtecncappdnhbaaaG4
set_option autoImplicit false
set_option linter.unusedVariables false
set_option linter.unusedSimpArgs false
set_option linter.unusedSectionVars false
set_option maxRecDepth 100000
section
noncomputable section
namespace Go.Proofs.Ytecncappdnhbaaa
open Go.Ab.M Go.Ab Go
theorem aA_e (op sub pl fi ct:Int) (la:Bool) (ln:Nat) (lv:List AV) (da:Bool) (dn:Nat) (dv:List AV) (r0 r1 r2 r3 r4:Int) (lb:Bool) (lm:Nat) (lw:List AV) (m i:Nat) (h0:(xak (Int.ofNat i) (Int.ofNat m))=false) (h1:(AV.plainL lw)=true) (h2:(AV.plainL lv)=true) (h3:(AV.plainL dv)=true) :
 xbb Try.prog (xdi tys) 51 3 (xbj (xbg Try.f58 0)) { fr:=xar 51 ([1,2,3,21,22,23].zip [.ptr (some (0,0)), .ptr (some (1,0)), .ptr (some (2,0)), .fsl lb lm lw, .int .i64 (Int.ofNat m), .int .i64 (Int.ofNat i)]),ds:=xdp 0,H:=mkL [.cells true 103 7 [.int .u8 op, .int .u8 sub, .int .u8 pl, .int .u32 fi, .int .u8 ct, .fsl la ln lv, .fsl da dn dv], .cells true 108 7 [.int .u8 (Int.ofNat 0), .int .u8 (Int.ofNat 0), .int .u8 (Int.ofNat 0), .int .u64 (Int.ofNat 0), .int .u8 (Int.ofNat 0), .slice none 0 (some 0), .slice none 0 (some 0)], .cells true 108 7 [.int .u8 r0, .int .u8 r1, .int .u8 r2, .int .u64 r3, .int .u8 r4, .slice none 0 (some 0), .slice none 0 (some 0)]] } (AX.exit 0) ⟨xar 51 ([1,2,3,21,22,23].zip [.ptr (some (0,0)), .ptr (some (1,0)), .ptr (some (2,0)), .fsl lb lm lw, .int .i64 (Int.ofNat m), .int .i64 (Int.ofNat i)]),xdp 0,mkL [.cells true 103 7 [.int .u8 op, .int .u8 sub, .int .u8 pl, .int .u32 fi, .int .u8 ct, .fsl la ln lv, .fsl da dn dv], .cells true 108 7 [.int .u8 (Int.ofNat 0), .int .u8 (Int.ofNat 0), .int .u8 (Int.ofNat 0), .int .u64 (Int.ofNat 0), .int .u8 (Int.ofNat 0), .slice none 0 (some 0), .slice none 0 (some 0)], .cells true 108 7 [.int .u8 r0, .int .u8 r1, .int .u8 r2, .int .u64 r3, .int .u8 r4, .slice none 0 (some 0), .slice none 0 (some 0)]]⟩ :=
 xbh (g:=30) (k:=58) (f:=30) (sl:=[1,2,3,21,22,23]) (ks:=[0,1,2]) (rs:=[]) (ds:=[]) (cxZ xbd) xeo (q:=qNs [1]) (c:=(cnF::[])) (cq:=[true,true,true,AV.plainL lw,true,AV.plainL lv,AV.plainL dv,true,true]) (by kernel_rfl) ⟨h0,trivial⟩ (xci ⟨rfl,rfl,rfl,h1,rfl,h2,h3,rfl,rfl,trivial⟩) (by kernel_rfl) (by kernel_rfl) (by kernel_rfl) (by kernel_rfl) (by kernel_rfl)
theorem aA_r (op sub pl fi ct:Int) (la:Bool) (ln:Nat) (lv:List AV) (da:Bool) (dn:Nat) (dv:List AV) (r0 r1 r2 r3 r4:Int) (lb:Bool) (lm:Nat) (lw:List AV) (m i:Nat) (h0:(xak (Int.ofNat i) (Int.ofNat m))=true) (h1:((Int.ofNat i).toNat.succ.ble lm)=true) (h2:(lw.length.beq (lm.mul 1))=true) (h3:(Nat.ble 1 (List.drop ((Int.ofNat i).toNat*1) lw).length)=true) (h4:(AV.isInt IntKind.u32 (cA lw i))=true) (h5:(AV.plainL lw)=true) (h6:(AV.plainL lv)=true) (h7:(AV.plainL dv)=true) :
 xbb Try.prog (xdi tys) 51 3 (xbj (xbg Try.f58 0)) { fr:=xar 51 ([1,2,3,21,22,23].zip [.ptr (some (0,0)), .ptr (some (1,0)), .ptr (some (2,0)), .fsl lb lm lw, .int .i64 (Int.ofNat m), .int .i64 (Int.ofNat i)]),ds:=xdp 0,H:=mkL [.cells true 103 7 [.int .u8 op, .int .u8 sub, .int .u8 pl, .int .u32 fi, .int .u8 ct, .fsl la ln lv, .fsl da dn dv], .cells true 108 7 [.int .u8 (Int.ofNat 0), .int .u8 (Int.ofNat 0), .int .u8 (Int.ofNat 0), .int .u64 (Int.ofNat 0), .int .u8 (Int.ofNat 0), .slice none 0 (some 0), .slice none 0 (some 0)], .cells true 108 7 [.int .u8 r0, .int .u8 r1, .int .u8 r2, .int .u64 r3, .int .u8 r4, .slice none 0 (some 0), .slice none 0 (some 0)]] } (AX.normal) ⟨xar 51 ([1,2,3,21,22,23].zip [.ptr (some (0,0)), .ptr (some (1,0)), .ptr (some (2,0)), .fsl lb lm lw, .int .i64 (Int.ofNat m), .int .i64 (xaf IntKind.i64 ((Int.ofNat i).add (Int.ofNat 1)))]),xdp 0,mkL [.cells true 103 7 [.int .u8 op, .int .u8 sub, .int .u8 pl, .int .u32 fi, .int .u8 ct, .fsl la ln lv, .fsl da dn dv], .cells true 108 7 [.int .u8 (Int.ofNat 0), .int .u8 (Int.ofNat 0), .int .u8 (Int.ofNat 0), .int .u64 (Int.ofNat 0), .int .u8 (Int.ofNat 0), .slice none 0 (some 0), .slice none 0 (some 0)], .cells true 108 7 [.int .u8 r0, .int .u8 r1, .int .u8 r2, .int .u64 r3, .int .u8 r4, .slice (some (3,0)) 1 none, .slice none 0 (some 0)], .cells true 22 1 [.int .u64 (xaf IntKind.u64 (cA lw i).intOf)]]⟩ :=
 xbh (g:=30) (k:=58) (f:=30) (sl:=[1,2,3,21,22,23]) (ks:=[0,1,2,4]) (rs:=[]) (ds:=[]) (cxZ xbd) xeo (q:=qNs [0,3,0,0,0,0,14]) (c:=(cnT::cnT::cnT::cnT::cnT::[])) (cq:=[true,true,true,AV.plainL lw,true,AV.plainL lv,AV.plainL dv,true,true,true,true,true]) (by kernel_rfl) ⟨h0,h1,h2,h3,h4,trivial⟩ (xci ⟨rfl,rfl,rfl,h5,rfl,h6,h7,rfl,rfl,rfl,rfl,rfl,trivial⟩) (by kernel_rfl) (by kernel_rfl) (by kernel_rfl) (by kernel_rfl) (by kernel_rfl)
theorem aB_e (op sub pl fi ct:Int) (la:Bool) (ln:Nat) (lv:List AV) (da:Bool) (dn:Nat) (dv:List AV) (r0 r1 r2 r3 r4:Int) (n:Nat) (n':Nat) (cs:List AV) (lb:Bool) (lm:Nat) (lw:List AV) (m:Nat) (i:Nat) (h0:(xak (Int.ofNat i) (Int.ofNat m))=false) (h1:(AV.plainL lw)=true) (h2:(AV.plainL lv)=true) (h3:(AV.plainL dv)=true) (h4:(AV.plainL cs)=true) :
 xbb Try.prog (xdi tys) 51 3 (xbj (xbg Try.f58 0)) { fr:=xar 51 ([1,2,3,21,22,23].zip [.ptr (some (0,0)), .ptr (some (1,0)), .ptr (some (2,0)), .fsl lb lm lw, .int .i64 (Int.ofNat m), .int .i64 (Int.ofNat i)]),ds:=xdp 0,H:=mkL [.cells true 103 7 [.int .u8 op, .int .u8 sub, .int .u8 pl, .int .u32 fi, .int .u8 ct, .fsl la ln lv, .fsl da dn dv], .cells true 108 7 [.int .u8 (Int.ofNat 0), .int .u8 (Int.ofNat 0), .int .u8 (Int.ofNat 0), .int .u64 (Int.ofNat 0), .int .u8 (Int.ofNat 0), .slice none 0 (some 0), .slice none 0 (some 0)], .cells true 108 7 [.int .u8 r0, .int .u8 r1, .int .u8 r2, .int .u64 r3, .int .u8 r4, .slice (some (3,0)) n none, .slice none 0 (some 0)], .cells true 22 n' cs] } (AX.exit 0) ⟨xar 51 ([1,2,3,21,22,23].zip [.ptr (some (0,0)), .ptr (some (1,0)), .ptr (some (2,0)), .fsl lb lm lw, .int .i64 (Int.ofNat m), .int .i64 (Int.ofNat i)]),xdp 0,mkL [.cells true 103 7 [.int .u8 op, .int .u8 sub, .int .u8 pl, .int .u32 fi, .int .u8 ct, .fsl la ln lv, .fsl da dn dv], .cells true 108 7 [.int .u8 (Int.ofNat 0), .int .u8 (Int.ofNat 0), .int .u8 (Int.ofNat 0), .int .u64 (Int.ofNat 0), .int .u8 (Int.ofNat 0), .slice none 0 (some 0), .slice none 0 (some 0)], .cells true 108 7 [.int .u8 r0, .int .u8 r1, .int .u8 r2, .int .u64 r3, .int .u8 r4, .slice (some (3,0)) n none, .slice none 0 (some 0)], .cells true 22 n' cs]⟩ :=
 xbh (g:=30) (k:=58) (f:=30) (sl:=[1,2,3,21,22,23]) (ks:=[0,1,2,3]) (rs:=[]) (ds:=[]) (cxZ xbd) xeo (q:=qNs [1]) (c:=(cnF::[])) (cq:=[true,true,true,AV.plainL lw,true,AV.plainL lv,AV.plainL dv,true,true,true,true,AV.plainL cs]) (by kernel_rfl) ⟨h0,trivial⟩ (xci ⟨rfl,rfl,rfl,h1,rfl,h2,h3,rfl,rfl,rfl,rfl,h4,trivial⟩) (by kernel_rfl) (by kernel_rfl) (by kernel_rfl) (by kernel_rfl) (by kernel_rfl)
theorem aB_r (op sub pl fi ct:Int) (la:Bool) (ln:Nat) (lv:List AV) (da:Bool) (dn:Nat) (dv:List AV) (r0 r1 r2 r3 r4:Int) (n:Nat) (n':Nat) (cs:List AV) (lb:Bool) (lm:Nat) (lw:List AV) (m:Nat) (i:Nat) (h0:(xak (Int.ofNat i) (Int.ofNat m))=true) (h1:((Int.ofNat i).toNat.succ.ble lm)=true) (h2:(lw.length.beq (lm.mul 1))=true) (h3:(Nat.ble 1 (List.drop ((Int.ofNat i).toNat*1) lw).length)=true) (h4:(AV.isInt IntKind.u32 (cA lw i))=true) (h5:(xch 8 n 1)=true) (h6:(n'.beq (n*1))=true) (h7:(AV.plainL lw)=true) (h8:(AV.plainL lv)=true) (h9:(AV.plainL dv)=true) (h10:(AV.plainL (cs++[AV.int IntKind.u64 (xaf IntKind.u64 (cA lw i).intOf)]))=true) :
 xbb Try.prog (xdi tys) 51 3 (xbj (xbg Try.f58 0)) { fr:=xar 51 ([1,2,3,21,22,23].zip [.ptr (some (0,0)), .ptr (some (1,0)), .ptr (some (2,0)), .fsl lb lm lw, .int .i64 (Int.ofNat m), .int .i64 (Int.ofNat i)]),ds:=xdp 0,H:=mkL [.cells true 103 7 [.int .u8 op, .int .u8 sub, .int .u8 pl, .int .u32 fi, .int .u8 ct, .fsl la ln lv, .fsl da dn dv], .cells true 108 7 [.int .u8 (Int.ofNat 0), .int .u8 (Int.ofNat 0), .int .u8 (Int.ofNat 0), .int .u64 (Int.ofNat 0), .int .u8 (Int.ofNat 0), .slice none 0 (some 0), .slice none 0 (some 0)], .cells true 108 7 [.int .u8 r0, .int .u8 r1, .int .u8 r2, .int .u64 r3, .int .u8 r4, .slice (some (3,0)) n none, .slice none 0 (some 0)], .cells true 22 n' cs] } (AX.normal) ⟨xar 51 ([1,2,3,21,22,23].zip [.ptr (some (0,0)), .ptr (some (1,0)), .ptr (some (2,0)), .fsl lb lm lw, .int .i64 (Int.ofNat m), .int .i64 (xaf IntKind.i64 ((Int.ofNat i).add (Int.ofNat 1)))]),xdp 0,mkL [.cells true 103 7 [.int .u8 op, .int .u8 sub, .int .u8 pl, .int .u32 fi, .int .u8 ct, .fsl la ln lv, .fsl da dn dv], .cells true 108 7 [.int .u8 (Int.ofNat 0), .int .u8 (Int.ofNat 0), .int .u8 (Int.ofNat 0), .int .u64 (Int.ofNat 0), .int .u8 (Int.ofNat 0), .slice none 0 (some 0), .slice none 0 (some 0)], .cells true 108 7 [.int .u8 r0, .int .u8 r1, .int .u8 r2, .int .u64 r3, .int .u8 r4, .slice (some (3,0)) (n+1) none, .slice none 0 (some 0)], .cells true 22 (cs++[AV.int IntKind.u64 (xaf IntKind.u64 (cA lw i).intOf)]).length (cs++[AV.int IntKind.u64 (xaf IntKind.u64 (cA lw i).intOf)])]⟩ :=
 xbh (g:=30) (k:=58) (f:=30) (sl:=[1,2,3,21,22,23]) (ks:=[0,1,2,5]) (rs:=[]) (ds:=[]) (cxZ xbd) xeo (q:=qNs [0,3,0,0,0,0,10,0,0,6]) (c:=(cnT::cnT::cnT::cnT::cnT::cnT::cnT::[])) (cq:=[true,true,true,AV.plainL lw,true,AV.plainL lv,AV.plainL dv,true,true,true,true,AV.plainL (cs++[AV.int IntKind.u64 (xaf IntKind.u64 (cA lw i).intOf)])]) (by kernel_rfl) ⟨h0,h1,h2,h3,h4,h5,h6,trivial⟩ (xci ⟨rfl,rfl,rfl,h7,rfl,h8,h9,rfl,rfl,rfl,rfl,h10,trivial⟩) (by kernel_rfl) (by kernel_rfl) (by kernel_rfl) (by kernel_rfl) (by kernel_rfl)
theorem dNA_e (r0 r1 r2 r3 r4:Int) (lb:Bool) (lm:Nat) (lw:List AV) (m i:Nat) (h0:(xak (Int.ofNat i) (Int.ofNat m))=false) (h1:(AV.plainL lw)=true) :
 xbb Try.prog (xdi tys) 51 2 (xbj (xbg Try.f58 2)) { fr:=xar 51 ([2,3,36,37,38].zip [.ptr (some (0,0)), .ptr (some (1,0)), .fsl lb lm lw, .int .i64 (Int.ofNat m), .int .i64 (Int.ofNat i)]),ds:=xdp 0,H:=mkL [.cells true 108 7 [.int .u8 (Int.ofNat 0), .int .u8 (Int.ofNat 0), .int .u8 (Int.ofNat 0), .int .u64 (Int.ofNat 0), .int .u8 (Int.ofNat 0), .slice none 0 (some 0), .slice none 0 (some 0)], .cells true 108 7 [.int .u8 r0, .int .u8 r1, .int .u8 r2, .int .u64 r3, .int .u8 r4, .slice none 0 (some 0), .slice none 0 (some 0)]] } (AX.exit 2) ⟨xar 51 ([2,3,36,37,38].zip [.ptr (some (0,0)), .ptr (some (1,0)), .fsl lb lm lw, .int .i64 (Int.ofNat m), .int .i64 (Int.ofNat i)]),xdp 0,mkL [.cells true 108 7 [.int .u8 (Int.ofNat 0), .int .u8 (Int.ofNat 0), .int .u8 (Int.ofNat 0), .int .u64 (Int.ofNat 0), .int .u8 (Int.ofNat 0), .slice none 0 (some 0), .slice none 0 (some 0)], .cells true 108 7 [.int .u8 r0, .int .u8 r1, .int .u8 r2, .int .u64 r3, .int .u8 r4, .slice none 0 (some 0), .slice none 0 (some 0)]]⟩ :=
 xbh (g:=30) (k:=58) (f:=30) (sl:=[2,3,36,37,38]) (ks:=[0,1]) (rs:=[]) (ds:=[]) (cxZ xbd) xeo (q:=qNs [1]) (c:=(cnF::[])) (cq:=[true,true,AV.plainL lw,true,true]) (by kernel_rfl) ⟨h0,trivial⟩ (xci ⟨rfl,rfl,h1,rfl,rfl,trivial⟩) (by kernel_rfl) (by kernel_rfl) (by kernel_rfl) (by kernel_rfl) (by kernel_rfl)
theorem dNA_r (r0 r1 r2 r3 r4:Int) (lb:Bool) (lm:Nat) (lw:List AV) (m i:Nat) (h0:(xak (Int.ofNat i) (Int.ofNat m))=true) (h1:((Int.ofNat i).toNat.succ.ble lm)=true) (h2:(lw.length.beq (lm.mul 1))=true) (h3:(Nat.ble 1 (List.drop ((Int.ofNat i).toNat*1) lw).length)=true) (h4:((cA lw i).isFsl)=true) (h5:((cA lw i).fslCells.length.beq (cA lw i).fslLen)=true) (h6:((bytesOf (cA lw i).fslCells).isSome)=true) (h7:(AV.plainL lw)=true) :
 xbb Try.prog (xdi tys) 51 2 (xbj (xbg Try.f58 2)) { fr:=xar 51 ([2,3,36,37,38].zip [.ptr (some (0,0)), .ptr (some (1,0)), .fsl lb lm lw, .int .i64 (Int.ofNat m), .int .i64 (Int.ofNat i)]),ds:=xdp 0,H:=mkL [.cells true 108 7 [.int .u8 (Int.ofNat 0), .int .u8 (Int.ofNat 0), .int .u8 (Int.ofNat 0), .int .u64 (Int.ofNat 0), .int .u8 (Int.ofNat 0), .slice none 0 (some 0), .slice none 0 (some 0)], .cells true 108 7 [.int .u8 r0, .int .u8 r1, .int .u8 r2, .int .u64 r3, .int .u8 r4, .slice none 0 (some 0), .slice none 0 (some 0)]] } (AX.normal) ⟨xar 51 ([2,3,36,37,38].zip [.ptr (some (0,0)), .ptr (some (1,0)), .fsl lb lm lw, .int .i64 (Int.ofNat m), .int .i64 (xaf IntKind.i64 ((Int.ofNat i).add (Int.ofNat 1)))]),xdp 0,mkL [.cells true 108 7 [.int .u8 (Int.ofNat 0), .int .u8 (Int.ofNat 0), .int .u8 (Int.ofNat 0), .int .u64 (Int.ofNat 0), .int .u8 (Int.ofNat 0), .slice none 0 (some 0), .slice none 0 (some 0)], .cells true 108 7 [.int .u8 r0, .int .u8 r1, .int .u8 r2, .int .u64 r3, .int .u8 r4, .slice none 0 (some 0), .slice (some (2,0)) 1 none], .cells true 9 1 [.str ((bytesOf (cA lw i).fslCells).getD [])]]⟩ :=
 xbh (g:=30) (k:=58) (f:=30) (sl:=[2,3,36,37,38]) (ks:=[0,1,3]) (rs:=[]) (ds:=[]) (cxZ xbd) xeo (q:=qNs [0,3,0,0,0,0,5,0,0,11]) (c:=(cnT::cnT::cnT::cnT::cnT::cnT::cnT::[])) (cq:=[true,true,AV.plainL lw,true,true,true,true,true]) (by kernel_rfl) ⟨h0,h1,h2,h3,h4,h5,h6,trivial⟩ (xci ⟨rfl,rfl,h7,rfl,rfl,rfl,rfl,rfl,trivial⟩) (by kernel_rfl) (by kernel_rfl) (by kernel_rfl) (by kernel_rfl) (by kernel_rfl)
theorem dNB_e (r0 r1 r2 r3 r4:Int) (n:Nat) (n':Nat) (cs:List AV) (lb:Bool) (lm:Nat) (lw:List AV) (m:Nat) (i:Nat) (h0:(xak (Int.ofNat i) (Int.ofNat m))=false) (h1:(AV.plainL lw)=true) (h2:(AV.plainL cs)=true) :
 xbb Try.prog (xdi tys) 51 2 (xbj (xbg Try.f58 2)) { fr:=xar 51 ([2,3,36,37,38].zip [.ptr (some (0,0)), .ptr (some (1,0)), .fsl lb lm lw, .int .i64 (Int.ofNat m), .int .i64 (Int.ofNat i)]),ds:=xdp 0,H:=mkL [.cells true 108 7 [.int .u8 (Int.ofNat 0), .int .u8 (Int.ofNat 0), .int .u8 (Int.ofNat 0), .int .u64 (Int.ofNat 0), .int .u8 (Int.ofNat 0), .slice none 0 (some 0), .slice none 0 (some 0)], .cells true 108 7 [.int .u8 r0, .int .u8 r1, .int .u8 r2, .int .u64 r3, .int .u8 r4, .slice none 0 (some 0), .slice (some (2,0)) n none], .cells true 9 n' cs] } (AX.exit 2) ⟨xar 51 ([2,3,36,37,38].zip [.ptr (some (0,0)), .ptr (some (1,0)), .fsl lb lm lw, .int .i64 (Int.ofNat m), .int .i64 (Int.ofNat i)]),xdp 0,mkL [.cells true 108 7 [.int .u8 (Int.ofNat 0), .int .u8 (Int.ofNat 0), .int .u8 (Int.ofNat 0), .int .u64 (Int.ofNat 0), .int .u8 (Int.ofNat 0), .slice none 0 (some 0), .slice none 0 (some 0)], .cells true 108 7 [.int .u8 r0, .int .u8 r1, .int .u8 r2, .int .u64 r3, .int .u8 r4, .slice none 0 (some 0), .slice (some (2,0)) n none], .cells true 9 n' cs]⟩ :=
 xbh (g:=30) (k:=58) (f:=30) (sl:=[2,3,36,37,38]) (ks:=[0,1,2]) (rs:=[]) (ds:=[]) (cxZ xbd) xeo (q:=qNs [1]) (c:=(cnF::[])) (cq:=[true,true,AV.plainL lw,true,true,true,true,AV.plainL cs]) (by kernel_rfl) ⟨h0,trivial⟩ (xci ⟨rfl,rfl,h1,rfl,rfl,rfl,rfl,h2,trivial⟩) (by kernel_rfl) (by kernel_rfl) (by kernel_rfl) (by kernel_rfl) (by kernel_rfl)
theorem dNB_r (r0 r1 r2 r3 r4:Int) (n:Nat) (n':Nat) (cs:List AV) (lb:Bool) (lm:Nat) (lw:List AV) (m:Nat) (i:Nat) (h0:(xak (Int.ofNat i) (Int.ofNat m))=true) (h1:((Int.ofNat i).toNat.succ.ble lm)=true) (h2:(lw.length.beq (lm.mul 1))=true) (h3:(Nat.ble 1 (List.drop ((Int.ofNat i).toNat*1) lw).length)=true) (h4:((cA lw i).isFsl)=true) (h5:((cA lw i).fslCells.length.beq (cA lw i).fslLen)=true) (h6:((bytesOf (cA lw i).fslCells).isSome)=true) (h7:(xch 16 n 1)=true) (h8:(n'.beq (n*1))=true) (h9:(AV.plainL lw)=true) (h10:(AV.plainL (cs++[AV.str ((bytesOf (cA lw i).fslCells).getD [])]))=true) :
 xbb Try.prog (xdi tys) 51 2 (xbj (xbg Try.f58 2)) { fr:=xar 51 ([2,3,36,37,38].zip [.ptr (some (0,0)), .ptr (some (1,0)), .fsl lb lm lw, .int .i64 (Int.ofNat m), .int .i64 (Int.ofNat i)]),ds:=xdp 0,H:=mkL [.cells true 108 7 [.int .u8 (Int.ofNat 0), .int .u8 (Int.ofNat 0), .int .u8 (Int.ofNat 0), .int .u64 (Int.ofNat 0), .int .u8 (Int.ofNat 0), .slice none 0 (some 0), .slice none 0 (some 0)], .cells true 108 7 [.int .u8 r0, .int .u8 r1, .int .u8 r2, .int .u64 r3, .int .u8 r4, .slice none 0 (some 0), .slice (some (2,0)) n none], .cells true 9 n' cs] } (AX.normal) ⟨xar 51 ([2,3,36,37,38].zip [.ptr (some (0,0)), .ptr (some (1,0)), .fsl lb lm lw, .int .i64 (Int.ofNat m), .int .i64 (xaf IntKind.i64 ((Int.ofNat i).add (Int.ofNat 1)))]),xdp 0,mkL [.cells true 108 7 [.int .u8 (Int.ofNat 0), .int .u8 (Int.ofNat 0), .int .u8 (Int.ofNat 0), .int .u64 (Int.ofNat 0), .int .u8 (Int.ofNat 0), .slice none 0 (some 0), .slice none 0 (some 0)], .cells true 108 7 [.int .u8 r0, .int .u8 r1, .int .u8 r2, .int .u64 r3, .int .u8 r4, .slice none 0 (some 0), .slice (some (2,0)) (n+1) none], .cells true 9 (cs++[AV.str ((bytesOf (cA lw i).fslCells).getD [])]).length (cs++[AV.str ((bytesOf (cA lw i).fslCells).getD [])])]⟩ :=
 xbh (g:=30) (k:=58) (f:=30) (sl:=[2,3,36,37,38]) (ks:=[0,1,4]) (rs:=[]) (ds:=[]) (cxZ xbd) xeo (q:=qNs [0,3,0,0,0,0,5,0,0,7,0,0,6]) (c:=(cnT::cnT::cnT::cnT::cnT::cnT::cnT::cnT::cnT::[])) (cq:=[true,true,AV.plainL lw,true,true,true,true,AV.plainL (cs++[AV.str ((bytesOf (cA lw i).fslCells).getD [])])]) (by kernel_rfl) ⟨h0,h1,h2,h3,h4,h5,h6,h7,h8,trivial⟩ (xci ⟨rfl,rfl,h9,rfl,rfl,rfl,rfl,h10,trivial⟩) (by kernel_rfl) (by kernel_rfl) (by kernel_rfl) (by kernel_rfl) (by kernel_rfl)
theorem dYA_e (r0 r1 r2 r3 r4:Int) (k:Nat) (k':Nat) (ks:List AV) (lb:Bool) (lm:Nat) (lw:List AV) (m:Nat) (i:Nat) (h0:(xak (Int.ofNat i) (Int.ofNat m))=false) (h1:(AV.plainL lw)=true) (h2:(AV.plainL ks)=true) :
 xbb Try.prog (xdi tys) 51 3 (xbj (xbg Try.f58 2)) { fr:=xar 51 ([2,3,36,37,38].zip [.ptr (some (0,0)), .ptr (some (1,0)), .fsl lb lm lw, .int .i64 (Int.ofNat m), .int .i64 (Int.ofNat i)]),ds:=xdp 0,H:=mkL [.cells true 108 7 [.int .u8 (Int.ofNat 0), .int .u8 (Int.ofNat 0), .int .u8 (Int.ofNat 0), .int .u64 (Int.ofNat 0), .int .u8 (Int.ofNat 0), .slice none 0 (some 0), .slice none 0 (some 0)], .cells true 108 7 [.int .u8 r0, .int .u8 r1, .int .u8 r2, .int .u64 r3, .int .u8 r4, .slice (some (2,0)) k none, .slice none 0 (some 0)], .cells true 22 k' ks] } (AX.exit 2) ⟨xar 51 ([2,3,36,37,38].zip [.ptr (some (0,0)), .ptr (some (1,0)), .fsl lb lm lw, .int .i64 (Int.ofNat m), .int .i64 (Int.ofNat i)]),xdp 0,mkL [.cells true 108 7 [.int .u8 (Int.ofNat 0), .int .u8 (Int.ofNat 0), .int .u8 (Int.ofNat 0), .int .u64 (Int.ofNat 0), .int .u8 (Int.ofNat 0), .slice none 0 (some 0), .slice none 0 (some 0)], .cells true 108 7 [.int .u8 r0, .int .u8 r1, .int .u8 r2, .int .u64 r3, .int .u8 r4, .slice (some (2,0)) k none, .slice none 0 (some 0)], .cells true 22 k' ks]⟩ :=
 xbh (g:=30) (k:=58) (f:=30) (sl:=[2,3,36,37,38]) (ks:=[0,1,2]) (rs:=[]) (ds:=[]) (cxZ xbd) xeo (q:=qNs [1]) (c:=(cnF::[])) (cq:=[true,true,AV.plainL lw,true,true,true,true,AV.plainL ks]) (by kernel_rfl) ⟨h0,trivial⟩ (xci ⟨rfl,rfl,h1,rfl,rfl,rfl,rfl,h2,trivial⟩) (by kernel_rfl) (by kernel_rfl) (by kernel_rfl) (by kernel_rfl) (by kernel_rfl)
theorem dYA_r (r0 r1 r2 r3 r4:Int) (k:Nat) (k':Nat) (ks:List AV) (lb:Bool) (lm:Nat) (lw:List AV) (m:Nat) (i:Nat) (h0:(xak (Int.ofNat i) (Int.ofNat m))=true) (h1:((Int.ofNat i).toNat.succ.ble lm)=true) (h2:(lw.length.beq (lm.mul 1))=true) (h3:(Nat.ble 1 (List.drop ((Int.ofNat i).toNat*1) lw).length)=true) (h4:((cA lw i).isFsl)=true) (h5:((cA lw i).fslCells.length.beq (cA lw i).fslLen)=true) (h6:((bytesOf (cA lw i).fslCells).isSome)=true) (h7:(AV.plainL lw)=true) (h8:(AV.plainL ks)=true) :
 xbb Try.prog (xdi tys) 51 3 (xbj (xbg Try.f58 2)) { fr:=xar 51 ([2,3,36,37,38].zip [.ptr (some (0,0)), .ptr (some (1,0)), .fsl lb lm lw, .int .i64 (Int.ofNat m), .int .i64 (Int.ofNat i)]),ds:=xdp 0,H:=mkL [.cells true 108 7 [.int .u8 (Int.ofNat 0), .int .u8 (Int.ofNat 0), .int .u8 (Int.ofNat 0), .int .u64 (Int.ofNat 0), .int .u8 (Int.ofNat 0), .slice none 0 (some 0), .slice none 0 (some 0)], .cells true 108 7 [.int .u8 r0, .int .u8 r1, .int .u8 r2, .int .u64 r3, .int .u8 r4, .slice (some (2,0)) k none, .slice none 0 (some 0)], .cells true 22 k' ks] } (AX.normal) ⟨xar 51 ([2,3,36,37,38].zip [.ptr (some (0,0)), .ptr (some (1,0)), .fsl lb lm lw, .int .i64 (Int.ofNat m), .int .i64 (xaf IntKind.i64 ((Int.ofNat i).add (Int.ofNat 1)))]),xdp 0,mkL [.cells true 108 7 [.int .u8 (Int.ofNat 0), .int .u8 (Int.ofNat 0), .int .u8 (Int.ofNat 0), .int .u64 (Int.ofNat 0), .int .u8 (Int.ofNat 0), .slice none 0 (some 0), .slice none 0 (some 0)], .cells true 108 7 [.int .u8 r0, .int .u8 r1, .int .u8 r2, .int .u64 r3, .int .u8 r4, .slice (some (2,0)) k none, .slice (some (3,0)) 1 none], .cells true 22 k' ks, .cells true 9 1 [.str ((bytesOf (cA lw i).fslCells).getD [])]]⟩ :=
 xbh (g:=30) (k:=58) (f:=30) (sl:=[2,3,36,37,38]) (ks:=[0,1,2,4]) (rs:=[]) (ds:=[]) (cxZ xbd) xeo (q:=qNs [0,3,0,0,0,0,5,0,0,11]) (c:=(cnT::cnT::cnT::cnT::cnT::cnT::cnT::[])) (cq:=[true,true,AV.plainL lw,true,true,true,true,true,AV.plainL ks,true,true]) (by kernel_rfl) ⟨h0,h1,h2,h3,h4,h5,h6,trivial⟩ (xci ⟨rfl,rfl,h7,rfl,rfl,rfl,rfl,rfl,h8,rfl,rfl,trivial⟩) (by kernel_rfl) (by kernel_rfl) (by kernel_rfl) (by kernel_rfl) (by kernel_rfl)
theorem dYB_e (r0 r1 r2 r3 r4:Int) (k:Nat) (k':Nat) (ks:List AV) (n:Nat) (n':Nat) (cs:List AV) (lb:Bool) (lm:Nat) (lw:List AV) (m:Nat) (i:Nat) (h0:(xak (Int.ofNat i) (Int.ofNat m))=false) (h1:(AV.plainL lw)=true) (h2:(AV.plainL ks)=true) (h3:(AV.plainL cs)=true) :
 xbb Try.prog (xdi tys) 51 3 (xbj (xbg Try.f58 2)) { fr:=xar 51 ([2,3,36,37,38].zip [.ptr (some (0,0)), .ptr (some (1,0)), .fsl lb lm lw, .int .i64 (Int.ofNat m), .int .i64 (Int.ofNat i)]),ds:=xdp 0,H:=mkL [.cells true 108 7 [.int .u8 (Int.ofNat 0), .int .u8 (Int.ofNat 0), .int .u8 (Int.ofNat 0), .int .u64 (Int.ofNat 0), .int .u8 (Int.ofNat 0), .slice none 0 (some 0), .slice none 0 (some 0)], .cells true 108 7 [.int .u8 r0, .int .u8 r1, .int .u8 r2, .int .u64 r3, .int .u8 r4, .slice (some (2,0)) k none, .slice (some (3,0)) n none], .cells true 22 k' ks, .cells true 9 n' cs] } (AX.exit 2) ⟨xar 51 ([2,3,36,37,38].zip [.ptr (some (0,0)), .ptr (some (1,0)), .fsl lb lm lw, .int .i64 (Int.ofNat m), .int .i64 (Int.ofNat i)]),xdp 0,mkL [.cells true 108 7 [.int .u8 (Int.ofNat 0), .int .u8 (Int.ofNat 0), .int .u8 (Int.ofNat 0), .int .u64 (Int.ofNat 0), .int .u8 (Int.ofNat 0), .slice none 0 (some 0), .slice none 0 (some 0)], .cells true 108 7 [.int .u8 r0, .int .u8 r1, .int .u8 r2, .int .u64 r3, .int .u8 r4, .slice (some (2,0)) k none, .slice (some (3,0)) n none], .cells true 22 k' ks, .cells true 9 n' cs]⟩ :=
 xbh (g:=30) (k:=58) (f:=30) (sl:=[2,3,36,37,38]) (ks:=[0,1,2,3]) (rs:=[]) (ds:=[]) (cxZ xbd) xeo (q:=qNs [1]) (c:=(cnF::[])) (cq:=[true,true,AV.plainL lw,true,true,true,true,true,AV.plainL ks,true,AV.plainL cs]) (by kernel_rfl) ⟨h0,trivial⟩ (xci ⟨rfl,rfl,h1,rfl,rfl,rfl,rfl,rfl,h2,rfl,h3,trivial⟩) (by kernel_rfl) (by kernel_rfl) (by kernel_rfl) (by kernel_rfl) (by kernel_rfl)
theorem dYB_r (r0 r1 r2 r3 r4:Int) (k:Nat) (k':Nat) (ks:List AV) (n:Nat) (n':Nat) (cs:List AV) (lb:Bool) (lm:Nat) (lw:List AV) (m:Nat) (i:Nat) (h0:(xak (Int.ofNat i) (Int.ofNat m))=true) (h1:((Int.ofNat i).toNat.succ.ble lm)=true) (h2:(lw.length.beq (lm.mul 1))=true) (h3:(Nat.ble 1 (List.drop ((Int.ofNat i).toNat*1) lw).length)=true) (h4:((cA lw i).isFsl)=true) (h5:((cA lw i).fslCells.length.beq (cA lw i).fslLen)=true) (h6:((bytesOf (cA lw i).fslCells).isSome)=true) (h7:(xch 16 n 1)=true) (h8:(n'.beq (n*1))=true) (h9:(AV.plainL lw)=true) (h10:(AV.plainL ks)=true) (h11:(AV.plainL (cs++[AV.str ((bytesOf (cA lw i).fslCells).getD [])]))=true) :
 xbb Try.prog (xdi tys) 51 3 (xbj (xbg Try.f58 2)) { fr:=xar 51 ([2,3,36,37,38].zip [.ptr (some (0,0)), .ptr (some (1,0)), .fsl lb lm lw, .int .i64 (Int.ofNat m), .int .i64 (Int.ofNat i)]),ds:=xdp 0,H:=mkL [.cells true 108 7 [.int .u8 (Int.ofNat 0), .int .u8 (Int.ofNat 0), .int .u8 (Int.ofNat 0), .int .u64 (Int.ofNat 0), .int .u8 (Int.ofNat 0), .slice none 0 (some 0), .slice none 0 (some 0)], .cells true 108 7 [.int .u8 r0, .int .u8 r1, .int .u8 r2, .int .u64 r3, .int .u8 r4, .slice (some (2,0)) k none, .slice (some (3,0)) n none], .cells true 22 k' ks, .cells true 9 n' cs] } (AX.normal) ⟨xar 51 ([2,3,36,37,38].zip [.ptr (some (0,0)), .ptr (some (1,0)), .fsl lb lm lw, .int .i64 (Int.ofNat m), .int .i64 (xaf IntKind.i64 ((Int.ofNat i).add (Int.ofNat 1)))]),xdp 0,mkL [.cells true 108 7 [.int .u8 (Int.ofNat 0), .int .u8 (Int.ofNat 0), .int .u8 (Int.ofNat 0), .int .u64 (Int.ofNat 0), .int .u8 (Int.ofNat 0), .slice none 0 (some 0), .slice none 0 (some 0)], .cells true 108 7 [.int .u8 r0, .int .u8 r1, .int .u8 r2, .int .u64 r3, .int .u8 r4, .slice (some (2,0)) k none, .slice (some (3,0)) (n+1) none], .cells true 22 k' ks, .cells true 9 (cs++[AV.str ((bytesOf (cA lw i).fslCells).getD [])]).length (cs++[AV.str ((bytesOf (cA lw i).fslCells).getD [])])]⟩ :=
 xbh (g:=30) (k:=58) (f:=30) (sl:=[2,3,36,37,38]) (ks:=[0,1,2,5]) (rs:=[]) (ds:=[]) (cxZ xbd) xeo (q:=qNs [0,3,0,0,0,0,5,0,0,7,0,0,6]) (c:=(cnT::cnT::cnT::cnT::cnT::cnT::cnT::cnT::cnT::[])) (cq:=[true,true,AV.plainL lw,true,true,true,true,true,AV.plainL ks,true,AV.plainL (cs++[AV.str ((bytesOf (cA lw i).fslCells).getD [])])]) (by kernel_rfl) ⟨h0,h1,h2,h3,h4,h5,h6,h7,h8,trivial⟩ (xci ⟨rfl,rfl,h9,rfl,rfl,rfl,rfl,rfl,h10,rfl,h11,trivial⟩) (by kernel_rfl) (by kernel_rfl) (by kernel_rfl) (by kernel_rfl) (by kernel_rfl)
theorem room8 {n:Nat} (h:n ≤ 1000):xch 8 n 1=true:=by unfold xch;exact decide_eq_true (by omega)
theorem xrb {n:Nat} (h:n ≤ 1000):xch 16 n 1=true:=by unfold xch;exact decide_eq_true (by omega)
def aT:List AV × List Blk → Bool:=fun x=>match x.1 with
 | [_,_,_, .fsl _ l _,_,_]=>Nat.beq l 0
 | _=>false
def a0:List AV × List Blk → Option (List Bool × AX × List AV × List Blk):=fun x=>match x with
 | ([.ptr (some (0,0)), .ptr (some (1,0)), .ptr (some (2,0)), .fsl lb lm lw, .int .i64 (.ofNat m), .int .i64 (.ofNat i)],[.cells true 103 7 [.int .u8 op, .int .u8 sub, .int .u8 pl, .int .u32 fi, .int .u8 ct, .fsl la ln lv, .fsl da dn dv], .cells true 108 7 [.int .u8 (.ofNat 0), .int .u8 (.ofNat 0), .int .u8 (.ofNat 0), .int .u64 (.ofNat 0), .int .u8 (.ofNat 0), .slice none 0 (some 0), .slice none 0 (some 0)], .cells true 108 7 [.int .u8 r0, .int .u8 r1, .int .u8 r2, .int .u64 r3, .int .u8 r4, .slice none 0 (some 0), .slice none 0 (some 0)]]) =>
  some ([Nat.beq m 0,Nat.beq i 0,AV.plainL lw,AV.plainL lv,AV.plainL dv], .normal,[.ptr (some (0,0)), .ptr (some (1,0)), .ptr (some (2,0)), .fsl lb lm lw, .int .i64 (Int.ofNat 0), .int .i64 (Int.ofNat 0)],[.cells true 103 7 [.int .u8 op, .int .u8 sub, .int .u8 pl, .int .u32 fi, .int .u8 ct, .fsl la ln lv, .fsl da dn dv], .cells true 108 7 [.int .u8 (Int.ofNat 0), .int .u8 (Int.ofNat 0), .int .u8 (Int.ofNat 0), .int .u64 (Int.ofNat 0), .int .u8 (Int.ofNat 0), .slice none 0 (some 0), .slice none 0 (some 0)], .cells true 108 7 [.int .u8 r0, .int .u8 r1, .int .u8 r2, .int .u64 r3, .int .u8 r4, .slice none 0 (some 0), .slice none 0 (some 0)]])
 | _=>none
def a1:List AV × List Blk → Option (List Bool × AX × List AV × List Blk):=fun x=>match x with
 | ([.ptr (some (0,0)), .ptr (some (1,0)), .ptr (some (2,0)), .fsl lb lm lw, .int .i64 (.ofNat m), .int .i64 (.ofNat i)],[.cells true 103 7 [.int .u8 op, .int .u8 sub, .int .u8 pl, .int .u32 fi, .int .u8 ct, .fsl la ln lv, .fsl da dn dv], .cells true 108 7 [.int .u8 (.ofNat 0), .int .u8 (.ofNat 0), .int .u8 (.ofNat 0), .int .u64 (.ofNat 0), .int .u8 (.ofNat 0), .slice none 0 (some 0), .slice none 0 (some 0)], .cells true 108 7 [.int .u8 r0, .int .u8 r1, .int .u8 r2, .int .u64 r3, .int .u8 r4, .slice none 0 (some 0), .slice none 0 (some 0)]]) =>
  some ([isU .u32 lw,Nat.beq lw.length lm,Nat.beq m lm,Nat.beq i 0,Nat.ble 1 lm,Nat.ble lm 900,AV.plainL lv,AV.plainL dv], .normal,[.ptr (some (0,0)), .ptr (some (1,0)), .ptr (some (2,0)), .fsl lb lm lw, .int .i64 (Int.ofNat lm), .int .i64 (Int.ofNat lm)],[.cells true 103 7 [.int .u8 op, .int .u8 sub, .int .u8 pl, .int .u32 fi, .int .u8 ct, .fsl la ln lv, .fsl da dn dv], .cells true 108 7 [.int .u8 (Int.ofNat 0), .int .u8 (Int.ofNat 0), .int .u8 (Int.ofNat 0), .int .u64 (Int.ofNat 0), .int .u8 (Int.ofNat 0), .slice none 0 (some 0), .slice none 0 (some 0)], .cells true 108 7 [.int .u8 r0, .int .u8 r1, .int .u8 r2, .int .u64 r3, .int .u8 r4, .slice (some (3,0)) lm none, .slice none 0 (some 0)], .cells true 22 lm (kept (xbs .u64 (xbt lw)))])
 | _=>none
def aL:ZLT:=⟨51,xbg Try.f58 0,[1,2,3,21,22,23],0,[], .node aT (.leaf a0) (.leaf a1)⟩
def aaE (op sub pl fi ct:Int) (la:Bool) (ln:Nat) (lv:List AV) (da:Bool) (dn:Nat) (dv:List AV) (r0 r1 r2 r3 r4:Int) (lb:Bool) (zs:List UInt32) (i:Nat):ZSt:=match i with
 | 0=>([.ptr (some (0,0)), .ptr (some (1,0)), .ptr (some (2,0)), .fsl lb zs.length (xbs .u32 zs), .int .i64 (Int.ofNat zs.length), .int .i64 (Int.ofNat 0)],[.cells true 103 7 [.int .u8 op, .int .u8 sub, .int .u8 pl, .int .u32 fi, .int .u8 ct, .fsl la ln lv, .fsl da dn dv], .cells true 108 7 [.int .u8 (Int.ofNat 0), .int .u8 (Int.ofNat 0), .int .u8 (Int.ofNat 0), .int .u64 (Int.ofNat 0), .int .u8 (Int.ofNat 0), .slice none 0 (some 0), .slice none 0 (some 0)], .cells true 108 7 [.int .u8 r0, .int .u8 r1, .int .u8 r2, .int .u64 r3, .int .u8 r4, .slice none 0 (some 0), .slice none 0 (some 0)]])
 | j+1=>([.ptr (some (0,0)), .ptr (some (1,0)), .ptr (some (2,0)), .fsl lb zs.length (xbs .u32 zs), .int .i64 (Int.ofNat zs.length), .int .i64 (Int.ofNat (j+1))],[.cells true 103 7 [.int .u8 op, .int .u8 sub, .int .u8 pl, .int .u32 fi, .int .u8 ct, .fsl la ln lv, .fsl da dn dv], .cells true 108 7 [.int .u8 (Int.ofNat 0), .int .u8 (Int.ofNat 0), .int .u8 (Int.ofNat 0), .int .u64 (Int.ofNat 0), .int .u8 (Int.ofNat 0), .slice none 0 (some 0), .slice none 0 (some 0)], .cells true 108 7 [.int .u8 r0, .int .u8 r1, .int .u8 r2, .int .u64 r3, .int .u8 r4, .slice (some (3,0)) (j+1) none, .slice none 0 (some 0)], .cells true 22 (j+1) (xbs .u64 (zs.take (j+1)))])
theorem aaE_some (op sub pl fi ct:Int) (la:Bool) (ln:Nat) (lv:List AV) (da:Bool) (dn:Nat) (dv:List AV) (r0 r1 r2 r3 r4:Int) (lb:Bool) (zs:List UInt32) (i:Nat) (h:i ≠ 0):aaE op sub pl fi ct la ln lv da dn dv r0 r1 r2 r3 r4 lb zs i=([.ptr (some (0,0)), .ptr (some (1,0)), .ptr (some (2,0)), .fsl lb zs.length (xbs .u32 zs), .int .i64 (Int.ofNat zs.length), .int .i64 (Int.ofNat i)],[.cells true 103 7 [.int .u8 op, .int .u8 sub, .int .u8 pl, .int .u32 fi, .int .u8 ct, .fsl la ln lv, .fsl da dn dv], .cells true 108 7 [.int .u8 (Int.ofNat 0), .int .u8 (Int.ofNat 0), .int .u8 (Int.ofNat 0), .int .u64 (Int.ofNat 0), .int .u8 (Int.ofNat 0), .slice none 0 (some 0), .slice none 0 (some 0)], .cells true 108 7 [.int .u8 r0, .int .u8 r1, .int .u8 r2, .int .u64 r3, .int .u8 r4, .slice (some (3,0)) i none, .slice none 0 (some 0)], .cells true 22 i (xbs .u64 (zs.take i))]):=by
 cases i with
 | zero=>exact absurd rfl h
 | succ j=>rfl
set_option maxHeartbeats 2000000 in
theorem aL_ok:aL.OK Try.prog (xdi tys) (xbz tys) 0:=by
 refine ⟨?_,?_⟩
 · intro vs bs conds X vs' bs' h hc hin
   have h:a0 (vs,bs)=some (conds,X,vs',bs'):=h
   unfold a0 at h
   split at h
   · rename_i lb lm lw m i op sub pl fi ct la ln lv da dn dv r0 r1 r2 r3 r4 he
     injection he with he1 he2
     subst he1;subst he2
     injection h with h;injection h with e1 h;injection h with e2 h;injection h with e3 e4
     subst e1;subst e2;subst e3;subst e4
     simp only [xah] at hc
     obtain ⟨c1,c2,p1,p2,p3,_⟩:=hc
     have c1:=xaj c1
     have c2:=xaj c2
     subst c1;subst c2
     have k0:xak (Int.ofNat 0) (Int.ofNat 0)=false:=rfl
     have key:=xbb.loop (P:=Try.prog) (cx:=xdi tys) (nn:=51) (n0:=3) (b:=xbj (xbg Try.f58 0)) (fun _:Unit=>(aL.at a0).st ([.ptr (some (0,0)), .ptr (some (1,0)), .ptr (some (2,0)), .fsl lb lm lw, .int .i64 (Int.ofNat 0), .int .i64 (Int.ofNat 0)],[.cells true 103 7 [.int .u8 op, .int .u8 sub, .int .u8 pl, .int .u32 fi, .int .u8 ct, .fsl la ln lv, .fsl da dn dv], .cells true 108 7 [.int .u8 (Int.ofNat 0), .int .u8 (Int.ofNat 0), .int .u8 (Int.ofNat 0), .int .u64 (Int.ofNat 0), .int .u8 (Int.ofNat 0), .slice none 0 (some 0), .slice none 0 (some 0)], .cells true 108 7 [.int .u8 r0, .int .u8 r1, .int .u8 r2, .int .u64 r3, .int .u8 r4, .slice none 0 (some 0), .slice none 0 (some 0)]]))
      (fun _=>(.exit 0,(aL.at a0).st ([.ptr (some (0,0)), .ptr (some (1,0)), .ptr (some (2,0)), .fsl lb lm lw, .int .i64 (Int.ofNat 0), .int .i64 (Int.ofNat 0)],[.cells true 103 7 [.int .u8 op, .int .u8 sub, .int .u8 pl, .int .u32 fi, .int .u8 ct, .fsl la ln lv, .fsl da dn dv], .cells true 108 7 [.int .u8 (Int.ofNat 0), .int .u8 (Int.ofNat 0), .int .u8 (Int.ofNat 0), .int .u64 (Int.ofNat 0), .int .u8 (Int.ofNat 0), .slice none 0 (some 0), .slice none 0 (some 0)], .cells true 108 7 [.int .u8 r0, .int .u8 r1, .int .u8 r2, .int .u64 r3, .int .u8 r4, .slice none 0 (some 0), .slice none 0 (some 0)]]))) (fun _=>0) (fun _=>.inr ⟨aA_e op sub pl fi ct la ln lv da dn dv r0 r1 r2 r3 r4 lb lm lw 0 0 k0 p1 p2 p3,by simp⟩) ()
     exact xbb.block 0 key
   · cases h
 · intro vs bs conds X vs' bs' h hc hin
   have h:a1 (vs,bs)=some (conds,X,vs',bs'):=h
   unfold a1 at h
   split at h
   · rename_i lb lm lw m i op sub pl fi ct la ln lv da dn dv r0 r1 r2 r3 r4 he
     injection he with he1 he2
     subst he1;subst he2
     injection h with h;injection h with e1 h;injection h with e2 h;injection h with e3 e4
     subst e1;subst e2;subst e3;subst e4
     simp only [xah] at hc
     obtain ⟨c1,c2,c3,c4,c5,c6,p1,p2,_⟩:=hc
     obtain ⟨zs,rfl⟩:=xcj.1 c1
     have c2:=xaj c2
     have c3:=xaj c3
     have c4:=xaj c4
     rw [xag] at c2
     subst c2;subst c3;subst c4
     have c5:=Nat.le_of_ble_eq_true c5
     have c6:=Nat.le_of_ble_eq_true c6
     rw [xab,xba]
     have key:=xbb.loop (P:=Try.prog) (cx:=xdi tys) (nn:=51) (n0:=3) (b:=xbj (xbg Try.f58 0)) (fun q:{i:Nat // i ≤ zs.length}=>(aL.at a1).st (aaE op sub pl fi ct la ln lv da dn dv r0 r1 r2 r3 r4 lb zs q.1))
      (fun q=>(.exit 0,(aL.at a1).st (aaE op sub pl fi ct la ln lv da dn dv r0 r1 r2 r3 r4 lb zs (zs.length)))) (fun q=>zs.length - q.1) (fun q=>by
      obtain ⟨i,hi⟩:=q
      simp only
      by_cases hlt:i < zs.length
      · refine .inl ⟨⟨i+1,hlt⟩,?_,trivial,by simp only;omega⟩
        have k0:xak (Int.ofNat i) (Int.ofNat (zs.length))=true:=by rw [xat];exact decide_eq_true (by show (i:Int) < ((zs.length:Nat):Int);omega)
        have hw:xaf .i64 ((Int.ofNat i).add (Int.ofNat 1))=Int.ofNat (i+1):=xbe .i64 (i+1) (by show _ < 9223372036854775808;omega)
        have z0:(Int.ofNat i).toNat=i:=rfl
        obtain ⟨x,hx⟩:∃ x,zs[i]? = some x:=⟨_,List.getElem?_eq_getElem hlt⟩
        have e1:(xbp (List.drop i (xbs .u32 zs)) 0).getD AV.undef=.int .u32 (x.toNat:Int):=by
         have:=xpv .u32 zs i x hx
         rwa [show (Int.ofNat i).toNat*1=i from Nat.mul_one i] at this
        have tk:zs.take (i+1)=zs.take i++[x]:=by rw [List.take_add_one,hx];rfl
        have tl:(zs.take (i+1)).length=i+1:=by rw [List.length_take];omega
        have e6:=xaw .u32 zs
        have e2:xbs .u64 (zs.take i)++[AV.int .u64 (x.toNat:Int)]=xbs .u64 (zs.take (i+1)):=by rw [xgl,tk]
        have e3:=u64_u32 x
        cases i with
        | zero =>
         have e2:[AV.int .u64 (x.toNat:Int)]=xbs .u64 (zs.take (0+1)):=by rw [← e2];rfl
         have key:=aA_r op sub pl fi ct la ln lv da dn dv r0 r1 r2 r3 r4 lb zs.length (xbs .u32 zs) zs.length 0
         iterate 8
          replace key:=key (by
           (try simp only [cA,AV.intOf,e1,Nat.zero_add,Nat.mul_one,z0,hw,k0,e3,e2,e6,p1,p2,xag,tl])
           first
            | done
            | with_reducible rfl
            | with_reducible exact xaw _ _
            | with_reducible exact xbm _
            | with_reducible exact xbv _
            | with_reducible exact room8 (by omega)
            | with_reducible exact xrb (by omega)
            | (simp [cA,e1,xbn,xbq,xag,xaq,xay,AV.isInt,AV.isFsl,xad,xac];done)
            | (simp [cA,e1,xbn,xbq,xag,xaq,xay,AV.isInt,AV.isFsl,xad,xac];omega))
         simp only [cA,AV.intOf,e1,Nat.zero_add,Nat.mul_one,z0,hw,k0,e3,e2,e6,p1,p2,xag,tl] at key
         exact key
        | succ j =>
         have key:=aB_r op sub pl fi ct la ln lv da dn dv r0 r1 r2 r3 r4 (j+1) (j+1) (xbs .u64 (zs.take (j+1))) lb zs.length (xbs .u32 zs) zs.length (j+1)
         iterate 11
          replace key:=key (by
           (try simp only [cA,AV.intOf,e1,Nat.zero_add,Nat.mul_one,z0,hw,k0,e3,e2,e6,p1,p2,xag,tl])
           first
            | done
            | with_reducible rfl
            | with_reducible exact xaw _ _
            | with_reducible exact xbm _
            | with_reducible exact xbv _
            | with_reducible exact room8 (by omega)
            | with_reducible exact xrb (by omega)
            | (simp [cA,e1,xbn,xbq,xag,xaq,xay,AV.isInt,AV.isFsl,xad,xac];done)
            | (simp [cA,e1,xbn,xbq,xag,xaq,xay,AV.isInt,AV.isFsl,xad,xac];omega))
         simp only [cA,AV.intOf,e1,Nat.zero_add,Nat.mul_one,z0,hw,k0,e3,e2,e6,p1,p2,xag,tl] at key
         exact key
      · have hi:zs.length=i:=by omega
        subst hi
        refine .inr ⟨?_,by simp⟩
        have k0:xak (Int.ofNat (zs.length)) (Int.ofNat (zs.length))=false:=by rw [xat];exact decide_eq_false (by show ¬ ((zs.length:Nat):Int) < ((zs.length:Nat):Int);omega)
        rw [aaE_some op sub pl fi ct la ln lv da dn dv r0 r1 r2 r3 r4 lb zs _ (by omega)]
        exact aB_e op sub pl fi ct la ln lv da dn dv r0 r1 r2 r3 r4 zs.length zs.length (xbs .u64 (zs.take zs.length)) lb zs.length (xbs .u32 zs) zs.length zs.length k0 (xaw _ _) p1 p2 (xaw _ _)) ⟨0,Nat.zero_le _⟩
     rw [aaE_some op sub pl fi ct la ln lv da dn dv r0 r1 r2 r3 r4 lb zs zs.length (by omega),List.take_length] at key
     exact xbb.block 0 key
   · cases h
def dT:List AV × List Blk → Bool:=fun x=>match x.1 with
 | [_,_, .fsl _ l _,_,_]=>Nat.beq l 0
 | _=>false
def dU:List AV × List Blk → Bool:=fun x=>match x.2 with
 | [_, .cells _ _ _ [_,_,_,_,_, .slice none _ _,_]]=>true
 | _=>false
def dN0:List AV × List Blk → Option (List Bool × AX × List AV × List Blk):=fun x=>match x with
 | ([.ptr (some (0,0)), .ptr (some (1,0)), .fsl lb lm lw, .int .i64 (.ofNat m), .int .i64 (.ofNat i)],[.cells true 108 7 [.int .u8 (.ofNat 0), .int .u8 (.ofNat 0), .int .u8 (.ofNat 0), .int .u64 (.ofNat 0), .int .u8 (.ofNat 0), .slice none 0 (some 0), .slice none 0 (some 0)], .cells true 108 7 [.int .u8 r0, .int .u8 r1, .int .u8 r2, .int .u64 r3, .int .u8 r4, .slice none 0 (some 0), .slice none 0 (some 0)]]) =>
  some ([Nat.beq m 0,Nat.beq i 0,AV.plainL lw], .normal,[.ptr (some (0,0)), .ptr (some (1,0)), .fsl lb lm lw, .int .i64 (Int.ofNat 0), .int .i64 (Int.ofNat 0)],[.cells true 108 7 [.int .u8 (Int.ofNat 0), .int .u8 (Int.ofNat 0), .int .u8 (Int.ofNat 0), .int .u64 (Int.ofNat 0), .int .u8 (Int.ofNat 0), .slice none 0 (some 0), .slice none 0 (some 0)], .cells true 108 7 [.int .u8 r0, .int .u8 r1, .int .u8 r2, .int .u64 r3, .int .u8 r4, .slice none 0 (some 0), .slice none 0 (some 0)]])
 | _=>none
def dN1:List AV × List Blk → Option (List Bool × AX × List AV × List Blk):=fun x=>match x with
 | ([.ptr (some (0,0)), .ptr (some (1,0)), .fsl lb lm lw, .int .i64 (.ofNat m), .int .i64 (.ofNat i)],[.cells true 108 7 [.int .u8 (.ofNat 0), .int .u8 (.ofNat 0), .int .u8 (.ofNat 0), .int .u64 (.ofNat 0), .int .u8 (.ofNat 0), .slice none 0 (some 0), .slice none 0 (some 0)], .cells true 108 7 [.int .u8 r0, .int .u8 r1, .int .u8 r2, .int .u64 r3, .int .u8 r4, .slice none 0 (some 0), .slice none 0 (some 0)]]) =>
  some ([isD lw,Nat.beq lw.length lm,Nat.beq m lm,Nat.beq i 0,Nat.ble 1 lm,Nat.ble lm 900], .normal,[.ptr (some (0,0)), .ptr (some (1,0)), .fsl lb lm lw, .int .i64 (Int.ofNat lm), .int .i64 (Int.ofNat lm)],[.cells true 108 7 [.int .u8 (Int.ofNat 0), .int .u8 (Int.ofNat 0), .int .u8 (Int.ofNat 0), .int .u64 (Int.ofNat 0), .int .u8 (Int.ofNat 0), .slice none 0 (some 0), .slice none 0 (some 0)], .cells true 108 7 [.int .u8 r0, .int .u8 r1, .int .u8 r2, .int .u64 r3, .int .u8 r4, .slice none 0 (some 0), .slice (some (2,0)) lm none], .cells true 9 lm (kept (encS ((xoi lw).map Prod.snd)))])
 | _=>none
def dY0:List AV × List Blk → Option (List Bool × AX × List AV × List Blk):=fun x=>match x with
 | ([.ptr (some (0,0)), .ptr (some (1,0)), .fsl lb lm lw, .int .i64 (.ofNat m), .int .i64 (.ofNat i)],[.cells true 108 7 [.int .u8 (.ofNat 0), .int .u8 (.ofNat 0), .int .u8 (.ofNat 0), .int .u64 (.ofNat 0), .int .u8 (.ofNat 0), .slice none 0 (some 0), .slice none 0 (some 0)], .cells true 108 7 [.int .u8 r0, .int .u8 r1, .int .u8 r2, .int .u64 r3, .int .u8 r4, .slice (some (2,0)) k none, .slice none 0 (some 0)], .cells true 22 k' ks]) =>
  some ([Nat.beq m 0,Nat.beq i 0,AV.plainL lw,AV.plainL ks], .normal,[.ptr (some (0,0)), .ptr (some (1,0)), .fsl lb lm lw, .int .i64 (Int.ofNat 0), .int .i64 (Int.ofNat 0)],[.cells true 108 7 [.int .u8 (Int.ofNat 0), .int .u8 (Int.ofNat 0), .int .u8 (Int.ofNat 0), .int .u64 (Int.ofNat 0), .int .u8 (Int.ofNat 0), .slice none 0 (some 0), .slice none 0 (some 0)], .cells true 108 7 [.int .u8 r0, .int .u8 r1, .int .u8 r2, .int .u64 r3, .int .u8 r4, .slice (some (2,0)) k none, .slice none 0 (some 0)], .cells true 22 k' ks])
 | _=>none
def dY1:List AV × List Blk → Option (List Bool × AX × List AV × List Blk):=fun x=>match x with
 | ([.ptr (some (0,0)), .ptr (some (1,0)), .fsl lb lm lw, .int .i64 (.ofNat m), .int .i64 (.ofNat i)],[.cells true 108 7 [.int .u8 (.ofNat 0), .int .u8 (.ofNat 0), .int .u8 (.ofNat 0), .int .u64 (.ofNat 0), .int .u8 (.ofNat 0), .slice none 0 (some 0), .slice none 0 (some 0)], .cells true 108 7 [.int .u8 r0, .int .u8 r1, .int .u8 r2, .int .u64 r3, .int .u8 r4, .slice (some (2,0)) k none, .slice none 0 (some 0)], .cells true 22 k' ks]) =>
  some ([isD lw,Nat.beq lw.length lm,Nat.beq m lm,Nat.beq i 0,Nat.ble 1 lm,Nat.ble lm 900,AV.plainL ks], .normal,[.ptr (some (0,0)), .ptr (some (1,0)), .fsl lb lm lw, .int .i64 (Int.ofNat lm), .int .i64 (Int.ofNat lm)],[.cells true 108 7 [.int .u8 (Int.ofNat 0), .int .u8 (Int.ofNat 0), .int .u8 (Int.ofNat 0), .int .u64 (Int.ofNat 0), .int .u8 (Int.ofNat 0), .slice none 0 (some 0), .slice none 0 (some 0)], .cells true 108 7 [.int .u8 r0, .int .u8 r1, .int .u8 r2, .int .u64 r3, .int .u8 r4, .slice (some (2,0)) k none, .slice (some (3,0)) lm none], .cells true 22 k' ks, .cells true 9 lm (kept (encS ((xoi lw).map Prod.snd)))])
 | _=>none
def dL:ZLT:=⟨51,xbg Try.f58 2,[2,3,36,37,38],0,[], .node dU (.node dT (.leaf dN0) (.leaf dN1)) (.node dT (.leaf dY0) (.leaf dY1))⟩
def dNE (r0 r1 r2 r3 r4:Int) (lb:Bool) (ds:List (Bool × List UInt8)) (i:Nat):ZSt:=match i with
 | 0=>([.ptr (some (0,0)), .ptr (some (1,0)), .fsl lb ds.length (xcu ds), .int .i64 (Int.ofNat ds.length), .int .i64 (Int.ofNat 0)],[.cells true 108 7 [.int .u8 (Int.ofNat 0), .int .u8 (Int.ofNat 0), .int .u8 (Int.ofNat 0), .int .u64 (Int.ofNat 0), .int .u8 (Int.ofNat 0), .slice none 0 (some 0), .slice none 0 (some 0)], .cells true 108 7 [.int .u8 r0, .int .u8 r1, .int .u8 r2, .int .u64 r3, .int .u8 r4, .slice none 0 (some 0), .slice none 0 (some 0)]])
 | j+1=>([.ptr (some (0,0)), .ptr (some (1,0)), .fsl lb ds.length (xcu ds), .int .i64 (Int.ofNat ds.length), .int .i64 (Int.ofNat (j+1))],[.cells true 108 7 [.int .u8 (Int.ofNat 0), .int .u8 (Int.ofNat 0), .int .u8 (Int.ofNat 0), .int .u64 (Int.ofNat 0), .int .u8 (Int.ofNat 0), .slice none 0 (some 0), .slice none 0 (some 0)], .cells true 108 7 [.int .u8 r0, .int .u8 r1, .int .u8 r2, .int .u64 r3, .int .u8 r4, .slice none 0 (some 0), .slice (some (2,0)) (j+1) none], .cells true 9 (j+1) (encS ((ds.take (j+1)).map Prod.snd))])
theorem dNE_some (r0 r1 r2 r3 r4:Int) (lb:Bool) (ds:List (Bool × List UInt8)) (i:Nat) (h:i ≠ 0):dNE r0 r1 r2 r3 r4 lb ds i=([.ptr (some (0,0)), .ptr (some (1,0)), .fsl lb ds.length (xcu ds), .int .i64 (Int.ofNat ds.length), .int .i64 (Int.ofNat i)],[.cells true 108 7 [.int .u8 (Int.ofNat 0), .int .u8 (Int.ofNat 0), .int .u8 (Int.ofNat 0), .int .u64 (Int.ofNat 0), .int .u8 (Int.ofNat 0), .slice none 0 (some 0), .slice none 0 (some 0)], .cells true 108 7 [.int .u8 r0, .int .u8 r1, .int .u8 r2, .int .u64 r3, .int .u8 r4, .slice none 0 (some 0), .slice (some (2,0)) i none], .cells true 9 i (encS ((ds.take i).map Prod.snd))]):=by
 cases i with
 | zero=>exact absurd rfl h
 | succ j=>rfl
def dYE (r0 r1 r2 r3 r4:Int) (k k':Nat) (ks:List AV) (lb:Bool) (ds:List (Bool × List UInt8)) (i:Nat):ZSt:=match i with
 | 0=>([.ptr (some (0,0)), .ptr (some (1,0)), .fsl lb ds.length (xcu ds), .int .i64 (Int.ofNat ds.length), .int .i64 (Int.ofNat 0)],[.cells true 108 7 [.int .u8 (Int.ofNat 0), .int .u8 (Int.ofNat 0), .int .u8 (Int.ofNat 0), .int .u64 (Int.ofNat 0), .int .u8 (Int.ofNat 0), .slice none 0 (some 0), .slice none 0 (some 0)], .cells true 108 7 [.int .u8 r0, .int .u8 r1, .int .u8 r2, .int .u64 r3, .int .u8 r4, .slice (some (2,0)) k none, .slice none 0 (some 0)], .cells true 22 k' ks])
 | j+1=>([.ptr (some (0,0)), .ptr (some (1,0)), .fsl lb ds.length (xcu ds), .int .i64 (Int.ofNat ds.length), .int .i64 (Int.ofNat (j+1))],[.cells true 108 7 [.int .u8 (Int.ofNat 0), .int .u8 (Int.ofNat 0), .int .u8 (Int.ofNat 0), .int .u64 (Int.ofNat 0), .int .u8 (Int.ofNat 0), .slice none 0 (some 0), .slice none 0 (some 0)], .cells true 108 7 [.int .u8 r0, .int .u8 r1, .int .u8 r2, .int .u64 r3, .int .u8 r4, .slice (some (2,0)) k none, .slice (some (3,0)) (j+1) none], .cells true 22 k' ks, .cells true 9 (j+1) (encS ((ds.take (j+1)).map Prod.snd))])
theorem dYE_some (r0 r1 r2 r3 r4:Int) (k k':Nat) (ks:List AV) (lb:Bool) (ds:List (Bool × List UInt8)) (i:Nat) (h:i ≠ 0):dYE r0 r1 r2 r3 r4 k k' ks lb ds i=([.ptr (some (0,0)), .ptr (some (1,0)), .fsl lb ds.length (xcu ds), .int .i64 (Int.ofNat ds.length), .int .i64 (Int.ofNat i)],[.cells true 108 7 [.int .u8 (Int.ofNat 0), .int .u8 (Int.ofNat 0), .int .u8 (Int.ofNat 0), .int .u64 (Int.ofNat 0), .int .u8 (Int.ofNat 0), .slice none 0 (some 0), .slice none 0 (some 0)], .cells true 108 7 [.int .u8 r0, .int .u8 r1, .int .u8 r2, .int .u64 r3, .int .u8 r4, .slice (some (2,0)) k none, .slice (some (3,0)) i none], .cells true 22 k' ks, .cells true 9 i (encS ((ds.take i).map Prod.snd))]):=by
 cases i with
 | zero=>exact absurd rfl h
 | succ j=>rfl
set_option maxHeartbeats 2000000 in
theorem dL_ok:dL.OK Try.prog (xdi tys) (xbz tys) 2:=by
 refine ⟨⟨?_,?_⟩,⟨?_,?_⟩⟩
 · intro vs bs conds X vs' bs' h hc hin
   have h:dN0 (vs,bs)=some (conds,X,vs',bs'):=h
   unfold dN0 at h
   split at h
   · rename_i lb lm lw m i r0 r1 r2 r3 r4 he
     injection he with he1 he2
     subst he1;subst he2
     injection h with h;injection h with e1 h;injection h with e2 h;injection h with e3 e4
     subst e1;subst e2;subst e3;subst e4
     simp only [xah] at hc
     obtain ⟨c1,c2,p1,_⟩:=hc
     have c1:=xaj c1
     have c2:=xaj c2
     subst c1;subst c2
     have k0:xak (Int.ofNat 0) (Int.ofNat 0)=false:=rfl
     have key:=xbb.loop (P:=Try.prog) (cx:=xdi tys) (nn:=51) (n0:=2) (b:=xbj (xbg Try.f58 2)) (fun _:Unit=>(dL.at dN0).st ([.ptr (some (0,0)), .ptr (some (1,0)), .fsl lb lm lw, .int .i64 (Int.ofNat 0), .int .i64 (Int.ofNat 0)],[.cells true 108 7 [.int .u8 (Int.ofNat 0), .int .u8 (Int.ofNat 0), .int .u8 (Int.ofNat 0), .int .u64 (Int.ofNat 0), .int .u8 (Int.ofNat 0), .slice none 0 (some 0), .slice none 0 (some 0)], .cells true 108 7 [.int .u8 r0, .int .u8 r1, .int .u8 r2, .int .u64 r3, .int .u8 r4, .slice none 0 (some 0), .slice none 0 (some 0)]]))
      (fun _=>(.exit 2,(dL.at dN0).st ([.ptr (some (0,0)), .ptr (some (1,0)), .fsl lb lm lw, .int .i64 (Int.ofNat 0), .int .i64 (Int.ofNat 0)],[.cells true 108 7 [.int .u8 (Int.ofNat 0), .int .u8 (Int.ofNat 0), .int .u8 (Int.ofNat 0), .int .u64 (Int.ofNat 0), .int .u8 (Int.ofNat 0), .slice none 0 (some 0), .slice none 0 (some 0)], .cells true 108 7 [.int .u8 r0, .int .u8 r1, .int .u8 r2, .int .u64 r3, .int .u8 r4, .slice none 0 (some 0), .slice none 0 (some 0)]]))) (fun _=>0) (fun _=>.inr ⟨dNA_e r0 r1 r2 r3 r4 lb lm lw 0 0 k0 p1,by simp⟩) ()
     exact xbb.block 2 key
   · cases h
 · intro vs bs conds X vs' bs' h hc hin
   have h:dN1 (vs,bs)=some (conds,X,vs',bs'):=h
   unfold dN1 at h
   split at h
   · rename_i lb lm lw m i r0 r1 r2 r3 r4 he
     injection he with he1 he2
     subst he1;subst he2
     injection h with h;injection h with e1 h;injection h with e2 h;injection h with e3 e4
     subst e1;subst e2;subst e3;subst e4
     simp only [xah] at hc
     obtain ⟨c1,c2,c3,c4,c5,c6,_⟩:=hc
     obtain ⟨ds,rfl⟩:=xgk.1 c1
     have c2:=xaj c2
     have c3:=xaj c3
     have c4:=xaj c4
     rw [xay] at c2
     subst c2;subst c3;subst c4
     have c5:=Nat.le_of_ble_eq_true c5
     have c6:=Nat.le_of_ble_eq_true c6
     rw [xab,xcw]
     have key:=xbb.loop (P:=Try.prog) (cx:=xdi tys) (nn:=51) (n0:=2) (b:=xbj (xbg Try.f58 2)) (fun q:{i:Nat // i ≤ ds.length}=>(dL.at dN1).st (dNE r0 r1 r2 r3 r4 lb ds q.1))
      (fun q=>(.exit 2,(dL.at dN1).st (dNE r0 r1 r2 r3 r4 lb ds (ds.length)))) (fun q=>ds.length - q.1) (fun q=>by
      obtain ⟨i,hi⟩:=q
      simp only
      by_cases hlt:i < ds.length
      · refine .inl ⟨⟨i+1,hlt⟩,?_,trivial,by simp only;omega⟩
        have k0:xak (Int.ofNat i) (Int.ofNat (ds.length))=true:=by rw [xat];exact decide_eq_true (by show (i:Int) < ((ds.length:Nat):Int);omega)
        have hw:xaf .i64 ((Int.ofNat i).add (Int.ofNat 1))=Int.ofNat (i+1):=xbe .i64 (i+1) (by show _ < 9223372036854775808;omega)
        have z0:(Int.ofNat i).toNat=i:=rfl
        obtain ⟨x,hx⟩:∃ x,ds[i]? = some x:=⟨_,List.getElem?_eq_getElem hlt⟩
        have e1:(xbp (List.drop i (xcu ds)) 0).getD AV.undef=.fsl x.1 x.2.length (ofBytes x.2):=by
         have:=xjq ds i x hx
         rwa [show (Int.ofNat i).toNat*1=i from Nat.mul_one i] at this
        have tk:ds.take (i+1)=ds.take i++[x]:=by rw [List.take_add_one,hx];rfl
        have tl:(encS ((ds.take (i+1)).map Prod.snd)).length=i+1:=by rw [xaq,List.length_map,List.length_take];omega
        have e6:=xbv ds
        have e2:encS ((ds.take i).map Prod.snd)++[AV.str x.2]=encS ((ds.take (i+1)).map Prod.snd):=by rw [xnr,tk,List.map_append];rfl
        cases i with
        | zero =>
         have e2:[AV.str x.2]=encS ((ds.take (0+1)).map Prod.snd):=by rw [← e2];rfl
         have key:=dNA_r r0 r1 r2 r3 r4 lb ds.length (xcu ds) ds.length 0
         iterate 8
          replace key:=key (by
           (try simp only [cA,AV.fslCells,AV.fslLen,e1,Nat.zero_add,Nat.mul_one,z0,hw,k0,e6,xac,Option.getD_some,e2,tl])
           first
            | done
            | with_reducible rfl
            | with_reducible exact xaw _ _
            | with_reducible exact xbm _
            | with_reducible exact xbv _
            | with_reducible exact room8 (by omega)
            | with_reducible exact xrb (by omega)
            | (simp [cA,e1,xbn,xbq,xag,xaq,xay,AV.isInt,AV.isFsl,xad,xac];done)
            | (simp [cA,e1,xbn,xbq,xag,xaq,xay,AV.isInt,AV.isFsl,xad,xac];omega))
         simp only [cA,AV.fslCells,AV.fslLen,e1,Nat.zero_add,Nat.mul_one,z0,hw,k0,e6,xac,Option.getD_some,e2,tl] at key
         exact key
        | succ j =>
         have key:=dNB_r r0 r1 r2 r3 r4 (j+1) (j+1) (encS ((ds.take (j+1)).map Prod.snd)) lb ds.length (xcu ds) ds.length (j+1)
         iterate 11
          replace key:=key (by
           (try simp only [cA,AV.fslCells,AV.fslLen,e1,Nat.zero_add,Nat.mul_one,z0,hw,k0,e6,xac,Option.getD_some,e2,tl])
           first
            | done
            | with_reducible rfl
            | with_reducible exact xaw _ _
            | with_reducible exact xbm _
            | with_reducible exact xbv _
            | with_reducible exact room8 (by omega)
            | with_reducible exact xrb (by omega)
            | (simp [cA,e1,xbn,xbq,xag,xaq,xay,AV.isInt,AV.isFsl,xad,xac];done)
            | (simp [cA,e1,xbn,xbq,xag,xaq,xay,AV.isInt,AV.isFsl,xad,xac];omega))
         simp only [cA,AV.fslCells,AV.fslLen,e1,Nat.zero_add,Nat.mul_one,z0,hw,k0,e6,xac,Option.getD_some,e2,tl] at key
         exact key
      · have hi:ds.length=i:=by omega
        subst hi
        refine .inr ⟨?_,by simp⟩
        have k0:xak (Int.ofNat (ds.length)) (Int.ofNat (ds.length))=false:=by rw [xat];exact decide_eq_false (by show ¬ ((ds.length:Nat):Int) < ((ds.length:Nat):Int);omega)
        rw [dNE_some r0 r1 r2 r3 r4 lb ds _ (by omega)]
        exact dNB_e r0 r1 r2 r3 r4 ds.length ds.length (encS ((ds.take ds.length).map Prod.snd)) lb ds.length (xcu ds) ds.length ds.length k0 (xbv _) (xbm _)) ⟨0,Nat.zero_le _⟩
     rw [dNE_some r0 r1 r2 r3 r4 lb ds ds.length (by omega),List.take_length] at key
     exact xbb.block 2 key
   · cases h
 · intro vs bs conds X vs' bs' h hc hin
   have h:dY0 (vs,bs)=some (conds,X,vs',bs'):=h
   unfold dY0 at h
   split at h
   · rename_i lb lm lw m i r0 r1 r2 r3 r4 k k' ks he
     injection he with he1 he2
     subst he1;subst he2
     injection h with h;injection h with e1 h;injection h with e2 h;injection h with e3 e4
     subst e1;subst e2;subst e3;subst e4
     simp only [xah] at hc
     obtain ⟨c1,c2,p1,p2,_⟩:=hc
     have c1:=xaj c1
     have c2:=xaj c2
     subst c1;subst c2
     have k0:xak (Int.ofNat 0) (Int.ofNat 0)=false:=rfl
     have key:=xbb.loop (P:=Try.prog) (cx:=xdi tys) (nn:=51) (n0:=3) (b:=xbj (xbg Try.f58 2)) (fun _:Unit=>(dL.at dY0).st ([.ptr (some (0,0)), .ptr (some (1,0)), .fsl lb lm lw, .int .i64 (Int.ofNat 0), .int .i64 (Int.ofNat 0)],[.cells true 108 7 [.int .u8 (Int.ofNat 0), .int .u8 (Int.ofNat 0), .int .u8 (Int.ofNat 0), .int .u64 (Int.ofNat 0), .int .u8 (Int.ofNat 0), .slice none 0 (some 0), .slice none 0 (some 0)], .cells true 108 7 [.int .u8 r0, .int .u8 r1, .int .u8 r2, .int .u64 r3, .int .u8 r4, .slice (some (2,0)) k none, .slice none 0 (some 0)], .cells true 22 k' ks]))
      (fun _=>(.exit 2,(dL.at dY0).st ([.ptr (some (0,0)), .ptr (some (1,0)), .fsl lb lm lw, .int .i64 (Int.ofNat 0), .int .i64 (Int.ofNat 0)],[.cells true 108 7 [.int .u8 (Int.ofNat 0), .int .u8 (Int.ofNat 0), .int .u8 (Int.ofNat 0), .int .u64 (Int.ofNat 0), .int .u8 (Int.ofNat 0), .slice none 0 (some 0), .slice none 0 (some 0)], .cells true 108 7 [.int .u8 r0, .int .u8 r1, .int .u8 r2, .int .u64 r3, .int .u8 r4, .slice (some (2,0)) k none, .slice none 0 (some 0)], .cells true 22 k' ks]))) (fun _=>0) (fun _=>.inr ⟨dYA_e r0 r1 r2 r3 r4 k k' ks lb lm lw 0 0 k0 p1 p2,by simp⟩) ()
     exact xbb.block 2 key
   · cases h
 · intro vs bs conds X vs' bs' h hc hin
   have h:dY1 (vs,bs)=some (conds,X,vs',bs'):=h
   unfold dY1 at h
   split at h
   · rename_i lb lm lw m i r0 r1 r2 r3 r4 k k' ks he
     injection he with he1 he2
     subst he1;subst he2
     injection h with h;injection h with e1 h;injection h with e2 h;injection h with e3 e4
     subst e1;subst e2;subst e3;subst e4
     simp only [xah] at hc
     obtain ⟨c1,c2,c3,c4,c5,c6,p1,_⟩:=hc
     obtain ⟨ds,rfl⟩:=xgk.1 c1
     have c2:=xaj c2
     have c3:=xaj c3
     have c4:=xaj c4
     rw [xay] at c2
     subst c2;subst c3;subst c4
     have c5:=Nat.le_of_ble_eq_true c5
     have c6:=Nat.le_of_ble_eq_true c6
     rw [xab,xcw]
     have key:=xbb.loop (P:=Try.prog) (cx:=xdi tys) (nn:=51) (n0:=3) (b:=xbj (xbg Try.f58 2)) (fun q:{i:Nat // i ≤ ds.length}=>(dL.at dY1).st (dYE r0 r1 r2 r3 r4 k k' ks lb ds q.1))
      (fun q=>(.exit 2,(dL.at dY1).st (dYE r0 r1 r2 r3 r4 k k' ks lb ds (ds.length)))) (fun q=>ds.length - q.1) (fun q=>by
      obtain ⟨i,hi⟩:=q
      simp only
      by_cases hlt:i < ds.length
      · refine .inl ⟨⟨i+1,hlt⟩,?_,trivial,by simp only;omega⟩
        have k0:xak (Int.ofNat i) (Int.ofNat (ds.length))=true:=by rw [xat];exact decide_eq_true (by show (i:Int) < ((ds.length:Nat):Int);omega)
        have hw:xaf .i64 ((Int.ofNat i).add (Int.ofNat 1))=Int.ofNat (i+1):=xbe .i64 (i+1) (by show _ < 9223372036854775808;omega)
        have z0:(Int.ofNat i).toNat=i:=rfl
        obtain ⟨x,hx⟩:∃ x,ds[i]? = some x:=⟨_,List.getElem?_eq_getElem hlt⟩
        have e1:(xbp (List.drop i (xcu ds)) 0).getD AV.undef=.fsl x.1 x.2.length (ofBytes x.2):=by
         have:=xjq ds i x hx
         rwa [show (Int.ofNat i).toNat*1=i from Nat.mul_one i] at this
        have tk:ds.take (i+1)=ds.take i++[x]:=by rw [List.take_add_one,hx];rfl
        have tl:(encS ((ds.take (i+1)).map Prod.snd)).length=i+1:=by rw [xaq,List.length_map,List.length_take];omega
        have e6:=xbv ds
        have e2:encS ((ds.take i).map Prod.snd)++[AV.str x.2]=encS ((ds.take (i+1)).map Prod.snd):=by rw [xnr,tk,List.map_append];rfl
        cases i with
        | zero =>
         have e2:[AV.str x.2]=encS ((ds.take (0+1)).map Prod.snd):=by rw [← e2];rfl
         have key:=dYA_r r0 r1 r2 r3 r4 k k' ks lb ds.length (xcu ds) ds.length 0
         iterate 9
          replace key:=key (by
           (try simp only [cA,AV.fslCells,AV.fslLen,e1,Nat.zero_add,Nat.mul_one,z0,hw,k0,e6,xac,Option.getD_some,e2,tl,p1])
           first
            | done
            | with_reducible rfl
            | with_reducible exact xaw _ _
            | with_reducible exact xbm _
            | with_reducible exact xbv _
            | with_reducible exact room8 (by omega)
            | with_reducible exact xrb (by omega)
            | (simp [cA,e1,xbn,xbq,xag,xaq,xay,AV.isInt,AV.isFsl,xad,xac];done)
            | (simp [cA,e1,xbn,xbq,xag,xaq,xay,AV.isInt,AV.isFsl,xad,xac];omega))
         simp only [cA,AV.fslCells,AV.fslLen,e1,Nat.zero_add,Nat.mul_one,z0,hw,k0,e6,xac,Option.getD_some,e2,tl,p1] at key
         exact key
        | succ j =>
         have key:=dYB_r r0 r1 r2 r3 r4 k k' ks (j+1) (j+1) (encS ((ds.take (j+1)).map Prod.snd)) lb ds.length (xcu ds) ds.length (j+1)
         iterate 12
          replace key:=key (by
           (try simp only [cA,AV.fslCells,AV.fslLen,e1,Nat.zero_add,Nat.mul_one,z0,hw,k0,e6,xac,Option.getD_some,e2,tl,p1])
           first
            | done
            | with_reducible rfl
            | with_reducible exact xaw _ _
            | with_reducible exact xbm _
            | with_reducible exact xbv _
            | with_reducible exact room8 (by omega)
            | with_reducible exact xrb (by omega)
            | (simp [cA,e1,xbn,xbq,xag,xaq,xay,AV.isInt,AV.isFsl,xad,xac];done)
            | (simp [cA,e1,xbn,xbq,xag,xaq,xay,AV.isInt,AV.isFsl,xad,xac];omega))
         simp only [cA,AV.fslCells,AV.fslLen,e1,Nat.zero_add,Nat.mul_one,z0,hw,k0,e6,xac,Option.getD_some,e2,tl,p1] at key
         exact key
      · have hi:ds.length=i:=by omega
        subst hi
        refine .inr ⟨?_,by simp⟩
        have k0:xak (Int.ofNat (ds.length)) (Int.ofNat (ds.length))=false:=by rw [xat];exact decide_eq_false (by show ¬ ((ds.length:Nat):Int) < ((ds.length:Nat):Int);omega)
        rw [dYE_some r0 r1 r2 r3 r4 k k' ks lb ds _ (by omega)]
        exact dYB_e r0 r1 r2 r3 r4 k k' ks ds.length ds.length (encS ((ds.take ds.length).map Prod.snd)) lb ds.length (xcu ds) ds.length ds.length k0 (xbv _) p1 (xbm _)) ⟨0,Nat.zero_le _⟩
     rw [dYE_some r0 r1 r2 r3 r4 k k' ks lb ds ds.length (by omega),List.take_length] at key
     exact xbb.block 2 key
   · cases h
end Go.Proofs.Ytecncappdnhbaaa
end
end

section
noncomputable section
namespace Go.Ab.M
def okT (p:Nat → Bool) (cs:List AV):Bool:=cs.all fun v=>p v.strOf.length
def badK (p:Nat → Bool) (cs:List AV):Nat:=cs.findIdx fun v=>!p v.strOf.length
def xqx (op:Int) (dv:List AV):Bool:=decide (op=2) && !okT xdd dv
def xjn (op:Int) (ln dn:Nat):Bool:=decide (op=2 → ln=dn)
def cutS (op:Int) (zs:List UInt32) (ss:List (List UInt8)) (k:Nat):List UInt8:=xbw op (zs.take k) ss++xdf 4 ((zs[k]?).getD 0).toNat
end Go.Ab.M
namespace Go.Ab
open M
theorem okT_at {p:Nat → Bool} {ss:List (List UInt8)} (h:okT p (encS ss)=true) {i:Nat} {x:List UInt8} (hx:ss[i]? = some x):p x.length=true :=
 List.all_eq_true.1 h (.str x) (by unfold encS;exact List.mem_map_of_mem (List.mem_of_getElem? hx))
theorem badK_lt {p:Nat → Bool} {ss:List (List UInt8)} (h:okT p (encS ss)=false):badK p (encS ss) < ss.length:=by
 have e:(encS ss).length=ss.length:=xaq ss
 rw [← e]
 unfold badK
 refine List.findIdx_lt_length_of_exists ?_
 unfold okT at h
 have h:=List.all_eq_false.1 h
 obtain ⟨x,hx,hp⟩:=h
 exact ⟨x,hx,by simpa using hp⟩
theorem encS_get (l:List (List UInt8)) (i:Nat) (hi:i < (encS l).length) (h:i < l.length):(encS l)[i]=.str l[i]:=by
 simp [encS]
theorem badK_before {p:Nat → Bool} {ss:List (List UInt8)} {i:Nat} (h:i < badK p (encS ss)) {x:List UInt8} (hx:ss[i]? = some x):p x.length=true:=by
 obtain ⟨hlt,hv⟩:=List.getElem?_eq_some_iff.1 hx
 have:=List.not_of_lt_findIdx h
 rw [encS_get ss i (by rw [xaq];exact hlt) hlt,hv] at this
 simpa [AV.strOf] using this
theorem badK_at {p:Nat → Bool} {ss:List (List UInt8)} (h:okT p (encS ss)=false) {x:List UInt8} (hx:ss[badK p (encS ss)]? = some x):p x.length=false:=by
 obtain ⟨hlt,hv⟩:=List.getElem?_eq_some_iff.1 hx
 have:=@List.findIdx_getElem _ (fun v:AV=>!p v.strOf.length) (encS ss) (by show badK p (encS ss) < _;rw [xaq];exact hlt)
 have e:=encS_get ss (badK p (encS ss)) (by rw [xaq];exact hlt) hlt
 unfold badK at e hv
 rw [e,hv] at this
 simpa [AV.strOf] using this
end Go.Ab
namespace Go.Proofs.Ytecncappdnhbaaa
open Go.Ab.M Go.Ab Go
theorem s_e (op sub pl fi ct:Int) (la:Bool) (ln:Nat) (lv:List AV) (da:Bool) (dn:Nat) (dv:List AV) (w:List UInt8) (lb:Bool) (lm:Nat) (lw:List AV) (m:Nat) (i:Nat) (h0:(xak (Int.ofNat i) (Int.ofNat m))=false) (h1:(AV.plainL lw)=true) (h2:(AV.plainL lv)=true) (h3:(AV.plainL dv)=true) :
 xbb Try.prog (xdi tys) 194 1 (xbj (xbg Try.f59 0)) { fr:=xar 194 ([1,2,4,118,119,120].zip [.ptr (some (0,0)), .str [], .str w, .fsl lb lm lw, .int .i64 (Int.ofNat m), .int .i64 (Int.ofNat i)]),ds:=xdp 0,H:=mkL [.cells true 108 7 [.int .u8 op, .int .u8 sub, .int .u8 pl, .int .u64 fi, .int .u8 ct, .fsl la ln lv, .fsl da dn dv]] } (AX.exit 0) ⟨xar 194 ([1,2,4,118,119,120].zip [.ptr (some (0,0)), .str [], .str w, .fsl lb lm lw, .int .i64 (Int.ofNat m), .int .i64 (Int.ofNat i)]),xdp 0,mkL [.cells true 108 7 [.int .u8 op, .int .u8 sub, .int .u8 pl, .int .u64 fi, .int .u8 ct, .fsl la ln lv, .fsl da dn dv]]⟩ :=
 xbh (g:=30) (k:=59) (f:=30) (sl:=[1,2,4,118,119,120]) (ks:=[0]) (rs:=[]) (ds:=[]) (cxZ xbd) xeo (q:=qNs [1]) (c:=(cnF::[])) (cq:=[true,AV.plainL lw,true,AV.plainL lv,AV.plainL dv]) (by kernel_rfl) ⟨h0,trivial⟩ (xci ⟨rfl,h1,rfl,h2,h3,trivial⟩) (by kernel_rfl) (by kernel_rfl) (by kernel_rfl) (by kernel_rfl) (by kernel_rfl)
theorem s_3 (op sub pl fi ct:Int) (la:Bool) (ln:Nat) (lv:List AV) (da:Bool) (dn:Nat) (dv:List AV) (w:List UInt8) (lb:Bool) (lm:Nat) (lw:List AV) (m:Nat) (i:Nat) (h0:(xak (Int.ofNat i) (Int.ofNat m))=true) (h1:((Int.ofNat i).toNat.succ.ble ln)=true) (h2:(lv.length.beq (ln.mul 1))=true) (h3:(Nat.ble 1 (List.drop ((Int.ofNat i).toNat*1) lv).length)=true) (h4:(AV.isInt IntKind.u64 (cA lv i))=true) (h5:(xbr (Int.ofNat 0) (cA lv i).intOf)=true) (h6:(xak (cA lv i).intOf (Int.ofNat 18446744073709551616))=true) (h7:((bytesOf (xan (kept (ofBytes (xdf 4 (cA lv i).intOf.toNat))) 0 4)).isSome)=true) (h8:((w.length+((bytesOf (xan (kept (ofBytes (xdf 4 (cA lv i).intOf.toNat))) 0 4)).getD []).length).ble 9223372036854775807)=true) (h9:(xae (AV.int IntKind.u8 op).intOf (Int.ofNat 2))=false) (h10:(AV.plainL lw)=true) (h11:(AV.plainL lv)=true) (h12:(AV.plainL dv)=true) :
 xbb Try.prog (xdi tys) 194 1 (xbj (xbg Try.f59 0)) { fr:=xar 194 ([1,2,4,118,119,120].zip [.ptr (some (0,0)), .str [], .str w, .fsl lb lm lw, .int .i64 (Int.ofNat m), .int .i64 (Int.ofNat i)]),ds:=xdp 0,H:=mkL [.cells true 108 7 [.int .u8 op, .int .u8 sub, .int .u8 pl, .int .u64 fi, .int .u8 ct, .fsl la ln lv, .fsl da dn dv]] } (AX.normal) ⟨xar 194 ([1,2,4,118,119,120].zip [.ptr (some (0,0)), .str [], .str (w++(bytesOf (xan (kept (ofBytes (xdf 4 (cA lv i).intOf.toNat))) 0 4)).getD []), .fsl lb lm lw, .int .i64 (Int.ofNat m), .int .i64 (xaf IntKind.i64 ((Int.ofNat i).add (Int.ofNat 1)))]),xdp 0,mkL [.cells true 108 7 [.int .u8 op, .int .u8 sub, .int .u8 pl, .int .u64 fi, .int .u8 ct, .fsl la ln lv, .fsl da dn dv]]⟩ :=
 xbh (g:=30) (k:=59) (f:=30) (sl:=[1,2,4,118,119,120]) (ks:=[0]) (rs:=[]) (ds:=[]) (cxZ xbd) xeo (q:=qNs [0,6,0,0,0,0,3,0,0,3,0,0,5,1]) (c:=(cnT::cnT::cnT::cnT::cnT::cnT::cnT::cnT::cnT::cnF::[])) (cq:=[true,AV.plainL lw,true,AV.plainL lv,AV.plainL dv]) (by kernel_rfl) ⟨h0,h1,h2,h3,h4,h5,h6,h7,h8,h9,trivial⟩ (xci ⟨rfl,h10,rfl,h11,h12,trivial⟩) (by kernel_rfl) (by kernel_rfl) (by kernel_rfl) (by kernel_rfl) (by kernel_rfl)
theorem s_2 (op sub pl fi ct:Int) (la:Bool) (ln:Nat) (lv:List AV) (da:Bool) (dn:Nat) (dv:List AV) (w:List UInt8) (lb:Bool) (lm:Nat) (lw:List AV) (m:Nat) (i:Nat) (h0:(xak (Int.ofNat i) (Int.ofNat m))=true) (h1:((Int.ofNat i).toNat.succ.ble ln)=true) (h2:(lv.length.beq (ln.mul 1))=true) (h3:(Nat.ble 1 (List.drop ((Int.ofNat i).toNat*1) lv).length)=true) (h4:(AV.isInt IntKind.u64 (cA lv i))=true) (h5:(xbr (Int.ofNat 0) (cA lv i).intOf)=true) (h6:(xak (cA lv i).intOf (Int.ofNat 18446744073709551616))=true) (h7:((bytesOf (xan (kept (ofBytes (xdf 4 (cA lv i).intOf.toNat))) 0 4)).isSome)=true) (h8:((w.length+((bytesOf (xan (kept (ofBytes (xdf 4 (cA lv i).intOf.toNat))) 0 4)).getD []).length).ble 9223372036854775807)=true) (h9:(xae (AV.int IntKind.u8 op).intOf (Int.ofNat 2))=true) (h10:((Int.ofNat i).toNat.succ.ble dn)=true) (h11:(dv.length.beq (dn.mul 1))=true) (h12:(Nat.ble 1 (List.drop ((Int.ofNat i).toNat*1) dv).length)=true) (h13:((cA dv i).isStr)=true) (h14:(!xae (Int.ofNat (cA dv i).strOf.length) (Int.ofNat 440))=false) (h15:(((w++(bytesOf (xan (kept (ofBytes (xdf 4 (cA lv i).intOf.toNat))) 0 4)).getD []).length+(cA dv i).strOf.length).ble 9223372036854775807)=true) (h16:(AV.plainL lw)=true) (h17:(AV.plainL lv)=true) (h18:(AV.plainL dv)=true) :
 xbb Try.prog (xdi tys) 194 1 (xbj (xbg Try.f59 0)) { fr:=xar 194 ([1,2,4,118,119,120].zip [.ptr (some (0,0)), .str [], .str w, .fsl lb lm lw, .int .i64 (Int.ofNat m), .int .i64 (Int.ofNat i)]),ds:=xdp 0,H:=mkL [.cells true 108 7 [.int .u8 op, .int .u8 sub, .int .u8 pl, .int .u64 fi, .int .u8 ct, .fsl la ln lv, .fsl da dn dv]] } (AX.normal) ⟨xar 194 ([1,2,4,118,119,120].zip [.ptr (some (0,0)), .str [], .str (w++(bytesOf (xan (kept (ofBytes (xdf 4 (cA lv i).intOf.toNat))) 0 4)).getD []++(cA dv i).strOf), .fsl lb lm lw, .int .i64 (Int.ofNat m), .int .i64 (xaf IntKind.i64 ((Int.ofNat i).add (Int.ofNat 1)))]),xdp 0,mkL [.cells true 108 7 [.int .u8 op, .int .u8 sub, .int .u8 pl, .int .u64 fi, .int .u8 ct, .fsl la ln lv, .fsl da dn dv]]⟩ :=
 xbh (g:=30) (k:=59) (f:=30) (sl:=[1,2,4,118,119,120]) (ks:=[0]) (rs:=[]) (ds:=[]) (cxZ xbd) xeo (q:=qNs [0,6,0,0,0,0,3,0,0,3,0,0,5,0,6,0,0,0,0,1,6,0,0,0,0,0]) (c:=(cnT::cnT::cnT::cnT::cnT::cnT::cnT::cnT::cnT::cnT::cnT::cnT::cnT::cnT::cnF::cnT::cnT::cnT::cnT::cnT::[])) (cq:=[true,AV.plainL lw,true,AV.plainL lv,AV.plainL dv]) (by kernel_rfl) ⟨h0,h1,h2,h3,h4,h5,h6,h7,h8,h9,h10,h11,h12,h13,h14,h10,h11,h12,h13,h15,trivial⟩ (xci ⟨rfl,h16,rfl,h17,h18,trivial⟩) (by kernel_rfl) (by kernel_rfl) (by kernel_rfl) (by kernel_rfl) (by kernel_rfl)
theorem s_b (op sub pl fi ct:Int) (la:Bool) (ln:Nat) (lv:List AV) (da:Bool) (dn:Nat) (dv:List AV) (w:List UInt8) (lb:Bool) (lm:Nat) (lw:List AV) (m:Nat) (i:Nat) (h0:(xak (Int.ofNat i) (Int.ofNat m))=true) (h1:((Int.ofNat i).toNat.succ.ble ln)=true) (h2:(lv.length.beq (ln.mul 1))=true) (h3:(Nat.ble 1 (List.drop ((Int.ofNat i).toNat*1) lv).length)=true) (h4:(AV.isInt IntKind.u64 (cA lv i))=true) (h5:(xbr (Int.ofNat 0) (cA lv i).intOf)=true) (h6:(xak (cA lv i).intOf (Int.ofNat 18446744073709551616))=true) (h7:((bytesOf (xan (kept (ofBytes (xdf 4 (cA lv i).intOf.toNat))) 0 4)).isSome)=true) (h8:((w.length+((bytesOf (xan (kept (ofBytes (xdf 4 (cA lv i).intOf.toNat))) 0 4)).getD []).length).ble 9223372036854775807)=true) (h9:(xae (AV.int IntKind.u8 op).intOf (Int.ofNat 2))=true) (h10:((Int.ofNat i).toNat.succ.ble dn)=true) (h11:(dv.length.beq (dn.mul 1))=true) (h12:(Nat.ble 1 (List.drop ((Int.ofNat i).toNat*1) dv).length)=true) (h13:((cA dv i).isStr)=true) (h14:(!xae (Int.ofNat (cA dv i).strOf.length) (Int.ofNat 440))=true) (h15:(AV.plainL lw)=true) (h16:(AV.plainL lv)=true) (h17:(AV.plainL dv)=true) :
 xbb Try.prog (xdi tys) 194 1 (xbj (xbg Try.f59 0)) { fr:=xar 194 ([1,2,4,118,119,120].zip [.ptr (some (0,0)), .str [], .str w, .fsl lb lm lw, .int .i64 (Int.ofNat m), .int .i64 (Int.ofNat i)]),ds:=xdp 0,H:=mkL [.cells true 108 7 [.int .u8 op, .int .u8 sub, .int .u8 pl, .int .u64 fi, .int .u8 ct, .fsl la ln lv, .fsl da dn dv]] } (AX.ret) ⟨xar 194 ([1,2,4,118,119,120].zip [.ptr (some (0,0)), .str [], .str (w++(bytesOf (xan (kept (ofBytes (xdf 4 (cA lv i).intOf.toNat))) 0 4)).getD []), .fsl lb lm lw, .int .i64 (Int.ofNat m), .int .i64 (Int.ofNat i)]),xdp 0,mkL [.cells true 108 7 [.int .u8 op, .int .u8 sub, .int .u8 pl, .int .u64 fi, .int .u8 ct, .fsl la ln lv, .fsl da dn dv]]⟩ :=
 xbh (g:=30) (k:=59) (f:=30) (sl:=[1,2,4,118,119,120]) (ks:=[0]) (rs:=[]) (ds:=[]) (cxZ xbd) xeo (q:=qNs [0,6,0,0,0,0,3,0,0,3,0,0,5,0,6,0,0,0,0,0]) (c:=(cnT::cnT::cnT::cnT::cnT::cnT::cnT::cnT::cnT::cnT::cnT::cnT::cnT::cnT::cnT::[])) (cq:=[true,AV.plainL lw,true,AV.plainL lv,AV.plainL dv]) (by kernel_rfl) ⟨h0,h1,h2,h3,h4,h5,h6,h7,h8,h9,h10,h11,h12,h13,h14,trivial⟩ (xci ⟨rfl,h15,rfl,h16,h17,trivial⟩) (by kernel_rfl) (by kernel_rfl) (by kernel_rfl) (by kernel_rfl) (by kernel_rfl)
def sT:List AV × List Blk → Bool:=fun x=>match x.2 with
 | [.cells true 108 7 [.int .u8 op, .int .u8 sub, .int .u8 pl, .int .u64 fi, .int .u8 ct, .fsl la ln lv, .fsl da dn dv]]=>xqx op dv
 | _=>false
def s1:List AV × List Blk → Option (List Bool × AX × List AV × List Blk):=fun x=>match x with
 | ([.ptr (some (0,0)), .str [], .str w, .fsl lb lm lw, .int .i64 (.ofNat m), .int .i64 (.ofNat i)],[.cells true 108 7 [.int .u8 op, .int .u8 sub, .int .u8 pl, .int .u64 fi, .int .u8 ct, .fsl la ln lv, .fsl da dn dv]]) =>
  some ([isU .u64 lv,Nat.beq lv.length ln,Nat.beq m ln,Nat.beq i 0,Nat.ble ln 16,Nat.ble w.length 1000,AV.plainL lw,isS dv,Nat.beq dv.length dn,xjn op ln dn,xqx op dv], .ret,[.ptr (some (0,0)), .str [], .str (kept (w++cutS op (xbt lv) (xce dv) (badK xdd dv))), .fsl lb lm lw, .int .i64 (Int.ofNat ln), .int .i64 (Int.ofNat (badK xdd dv))],[.cells true 108 7 [.int .u8 op, .int .u8 sub, .int .u8 pl, .int .u64 fi, .int .u8 ct, .fsl la ln lv, .fsl da dn dv]])
 | _=>none
def s0:List AV × List Blk → Option (List Bool × AX × List AV × List Blk):=fun x=>match x with
 | ([.ptr (some (0,0)), .str [], .str w, .fsl lb lm lw, .int .i64 (.ofNat m), .int .i64 (.ofNat i)],[.cells true 108 7 [.int .u8 op, .int .u8 sub, .int .u8 pl, .int .u64 fi, .int .u8 ct, .fsl la ln lv, .fsl da dn dv]]) =>
  some ([isU .u64 lv,Nat.beq lv.length ln,Nat.beq m ln,Nat.beq i 0,Nat.ble ln 16,Nat.ble w.length 1000,AV.plainL lw,isS dv,Nat.beq dv.length dn,xjn op ln dn,!xqx op dv], .normal,[.ptr (some (0,0)), .str [], .str (kept (w++xbw op (xbt lv) (xce dv))), .fsl lb lm lw, .int .i64 (Int.ofNat ln), .int .i64 (Int.ofNat ln)],[.cells true 108 7 [.int .u8 op, .int .u8 sub, .int .u8 pl, .int .u64 fi, .int .u8 ct, .fsl la ln lv, .fsl da dn dv]])
 | _=>none
def sL:ZLT:=⟨194,xbg Try.f59 0,[1,2,4,118,119,120],0,[], .node sT (.leaf s1) (.leaf s0)⟩
set_option maxHeartbeats 2000000 in
theorem sL_ok:sL.OK Try.prog (xdi tys) (xbz tys) 0:=by
 refine ⟨?_,?_⟩
 · intro vs bs conds X vs' bs' h hc hin
   have h:s1 (vs,bs)=some (conds,X,vs',bs'):=h
   unfold s1 at h
   split at h
   · rename_i w lb lm lw m i op sub pl fi ct la ln lv da dn dv he
     injection he with he1 he2
     subst he1;subst he2
     injection h with h;injection h with e1 h;injection h with e2 h;injection h with e3 e4
     subst e1;subst e2;subst e3;subst e4
     simp only [xah] at hc
     obtain ⟨c1,c2,c3,c4,c5,c6,p1,c8,c9,c10,c11,_⟩:=hc
     obtain ⟨zs,rfl⟩:=xcj.1 c1
     obtain ⟨ss,rfl⟩:=xcx.1 c8
     have c2:=xaj c2
     have c3:=xaj c3
     have c4:=xaj c4
     have c9:=xaj c9
     rw [xag] at c2
     rw [xaq] at c9
     subst c2;subst c3;subst c4;subst c9
     have c5:=Nat.le_of_ble_eq_true c5
     have c6:=Nat.le_of_ble_eq_true c6
     have c10:op=2 → zs.length=ss.length:=of_decide_eq_true c10
     rw [xab,xba,xcn]
     have c11:decide (op=2) && !okT xdd (encS ss):=c11
     rw [Bool.and_eq_true,decide_eq_true_eq,Bool.not_eq_true'] at c11
     obtain ⟨ho,okf⟩:=c11
     have kl:=badK_lt okf
     have klz:=c10 ho
     have h440:op=2 → ∀ (j:Nat) (d:List UInt8),j < badK xdd (encS ss) → ss[j]? = some d → d.length=440:=fun _ j d hj hd=>xaj (badK_before hj hd)
     have key:=xbb.loop (P:=Try.prog) (cx:=xdi tys) (nn:=194) (n0:=1) (b:=xbj (xbg Try.f59 0)) (fun q:{i:Nat // i ≤ badK xdd (encS ss)}=>(sL.at s1).st ([.ptr (some (0,0)), .str [], .str (w++xbw op (zs.take q.1) ss), .fsl lb lm lw, .int .i64 (Int.ofNat zs.length), .int .i64 (Int.ofNat q.1)],[.cells true 108 7 [.int .u8 op, .int .u8 sub, .int .u8 pl, .int .u64 fi, .int .u8 ct, .fsl la zs.length (xbs .u64 zs), .fsl da ss.length (encS ss)]]))
      (fun q=>(.ret,(sL.at s1).st ([.ptr (some (0,0)), .str [], .str (w++cutS op zs ss (badK xdd (encS ss))), .fsl lb lm lw, .int .i64 (Int.ofNat zs.length), .int .i64 (Int.ofNat (badK xdd (encS ss)))],[.cells true 108 7 [.int .u8 op, .int .u8 sub, .int .u8 pl, .int .u64 fi, .int .u8 ct, .fsl la zs.length (xbs .u64 zs), .fsl da ss.length (encS ss)]]))) (fun q=>ss.length - q.1) (fun q=>by
      obtain ⟨i,hi⟩:=q
      simp only
      by_cases hlt:i < badK xdd (encS ss)
      · refine .inl ⟨⟨i+1,hlt⟩,?_,trivial,by simp only;omega⟩
        obtain ⟨x,hx⟩:∃ x,zs[i]? = some x:=⟨_,List.getElem?_eq_getElem (by omega)⟩
        have e1:(xbp (List.drop i (xbs .u64 zs)) 0).getD AV.undef=.int .u64 (x.toNat:Int):=by
         have:=xpv .u64 zs i x hx
         rwa [show (Int.ofNat i).toNat*1=i from Nat.mul_one i] at this
        have k0:xak (Int.ofNat i) (Int.ofNat zs.length)=true:=by rw [xat];exact decide_eq_true (by show (i:Int) < (zs.length:Int);omega)
        have hw:xaf .i64 ((Int.ofNat i).add (Int.ofNat 1))=Int.ofNat (i+1):=xbe .i64 (i+1) (by show _ < 9223372036854775808;omega)
        have z0:(Int.ofNat i).toNat=i:=rfl
        have tk:zs.take (i+1)=zs.take i++[x]:=by rw [List.take_add_one,hx];rfl
        have tl:(zs.take i).length=i:=by rw [List.length_take];omega
        have g0:=u32_ge x
        have g1:=u32_lt' x
        have e6:=xaw .u64 zs
        have e7:=xbm ss
        have p4:(xdf 4 x.toNat).length=4:=xcv 4 _
        have it:(x.toNat:Int).toNat=x.toNat:=rfl
        have rc:xan (ofBytes (xdf 4 x.toNat)) 0 4=ofBytes (xdf 4 x.toNat):=xfl _ 4 p4
        have bl:(xbw op (zs.take i) ss).length=xda op i:=by
         have:=xgt op (zs.take i) ss (fun h=>by have:=c10 h;omega) (fun h j d hj hd=>h440 h j d (by omega) hd)
         rw [tl] at this;exact this
        have sb:xda op i ≤ 444*i:=by unfold xda;split <;> omega
        have wl:(w++xbw op (zs.take i) ss).length=w.length+xda op i:=by rw [List.length_append,bl]
        by_cases ho:op=2
        · obtain ⟨y,hy⟩:∃ y,ss[i]? = some y:=⟨_,List.getElem?_eq_getElem (by have:=c10 ho;omega)⟩
          have il:i < ss.length:=(List.getElem?_eq_some_iff.1 hy).1
          have k2:xae op (Int.ofNat 2)=true:=by rw [ho];rfl
          have e8:(xbp (List.drop i (encS ss)) 0).getD AV.undef=.str y:=by
           have:=encS_at ss i y hy
           rwa [show (Int.ofNat i).toNat*1=i from Nat.mul_one i] at this
          have y5:y.length=440:=h440 ho i y (by omega) hy
          have y4:(!xae (Int.ofNat y.length) (Int.ofNat 440))=false:=by rw [y5];rfl
          have key:=s_2 op sub pl fi ct la zs.length (xbs .u64 zs) da ss.length (encS ss) (w++xbw op (zs.take i) ss) lb lm lw zs.length i
          iterate 19
           replace key:=key (by
            (try simp only [cA,AV.intOf,e1,Nat.zero_add,Nat.mul_one,z0,hw,k0,xab,it,g0,g1,e6,e7,p1,rc,xac,Option.getD_some,wl,List.length_append,p4,k2,e8,AV.strOf,y4])
            first
             | done
             | with_reducible rfl
             | with_reducible exact xaw _ _
             | with_reducible exact xbm _
             | (simp [cA,e1,xbn,xbq,xag,xaq,AV.isInt,xac,p4];done)
             | (simp [cA,e1,xbn,xbq,xag,xaq,AV.isInt,xac,p4,wl];omega)
             | (simp [cA,e8,xbn,xbq,xaq,AV.isStr,AV.strOf,y4,wl,p4,y5];done)
             | (simp [cA,e8,xbn,xbq,xaq,AV.isStr,AV.strOf,wl,p4,y5];omega))
          simp only [cA,AV.intOf,e1,Nat.zero_add,Nat.mul_one,z0,hw,k0,xab,it,g0,g1,e6,e7,p1,rc,xac,Option.getD_some,p4,k2,e8,AV.strOf] at key
          have eb:w++xbw op (zs.take i) ss++xdf 4 x.toNat++y=w++xbw op (zs.take (i+1)) ss:=by rw [tk,xdv,tl,if_pos ho,hy];simp [List.append_assoc]
          rw [eb] at key
          exact key
        · have k2:xae op (Int.ofNat 2)=false:=by rw [xaz];exact beq_eq_false_iff_ne.2 ho
          have key:=s_3 op sub pl fi ct la zs.length (xbs .u64 zs) da ss.length (encS ss) (w++xbw op (zs.take i) ss) lb lm lw zs.length i
          iterate 13
           replace key:=key (by
            (try simp only [cA,AV.intOf,e1,Nat.zero_add,Nat.mul_one,z0,hw,k0,xab,it,g0,g1,e6,e7,p1,rc,xac,Option.getD_some,wl,List.length_append,p4,k2])
            first
             | done
             | with_reducible rfl
             | with_reducible exact xaw _ _
             | with_reducible exact xbm _
             | (simp [cA,e1,xbn,xbq,xag,xaq,AV.isInt,xac,p4];done)
             | (simp [cA,e1,xbn,xbq,xag,xaq,AV.isInt,xac,p4,wl];omega))
          simp only [cA,AV.intOf,e1,Nat.zero_add,Nat.mul_one,z0,hw,k0,xab,it,g0,g1,e6,e7,p1,rc,xac,Option.getD_some,p4,k2] at key
          have eb:w++xbw op (zs.take i) ss++xdf 4 x.toNat=w++xbw op (zs.take (i+1)) ss:=by rw [tk,xdv,tl,if_neg ho];simp [List.append_assoc]
          rw [eb] at key
          exact key
      · have hib:i=badK xdd (encS ss):=by omega
        refine .inr ⟨?_,by simp⟩
        rw [← hib]
        obtain ⟨x,hx⟩:∃ x,zs[i]? = some x:=⟨_,List.getElem?_eq_getElem (by omega)⟩
        have e1:(xbp (List.drop i (xbs .u64 zs)) 0).getD AV.undef=.int .u64 (x.toNat:Int):=by
         have:=xpv .u64 zs i x hx
         rwa [show (Int.ofNat i).toNat*1=i from Nat.mul_one i] at this
        have k0:xak (Int.ofNat i) (Int.ofNat zs.length)=true:=by rw [xat];exact decide_eq_true (by show (i:Int) < (zs.length:Int);omega)
        have hw:xaf .i64 ((Int.ofNat i).add (Int.ofNat 1))=Int.ofNat (i+1):=xbe .i64 (i+1) (by show _ < 9223372036854775808;omega)
        have z0:(Int.ofNat i).toNat=i:=rfl
        have tk:zs.take (i+1)=zs.take i++[x]:=by rw [List.take_add_one,hx];rfl
        have tl:(zs.take i).length=i:=by rw [List.length_take];omega
        have g0:=u32_ge x
        have g1:=u32_lt' x
        have e6:=xaw .u64 zs
        have e7:=xbm ss
        have p4:(xdf 4 x.toNat).length=4:=xcv 4 _
        have it:(x.toNat:Int).toNat=x.toNat:=rfl
        have rc:xan (ofBytes (xdf 4 x.toNat)) 0 4=ofBytes (xdf 4 x.toNat):=xfl _ 4 p4
        have bl:(xbw op (zs.take i) ss).length=xda op i:=by
         have:=xgt op (zs.take i) ss (fun h=>by have:=c10 h;omega) (fun h j d hj hd=>h440 h j d (by omega) hd)
         rw [tl] at this;exact this
        have sb:xda op i ≤ 444*i:=by unfold xda;split <;> omega
        have wl:(w++xbw op (zs.take i) ss).length=w.length+xda op i:=by rw [List.length_append,bl]
        have ho:=ho
        obtain ⟨y,hy⟩:∃ y,ss[i]? = some y:=⟨_,List.getElem?_eq_getElem (by have:=c10 ho;omega)⟩
        have il:i < ss.length:=(List.getElem?_eq_some_iff.1 hy).1
        have k2:xae op (Int.ofNat 2)=true:=by rw [ho];rfl
        have e8:(xbp (List.drop i (encS ss)) 0).getD AV.undef=.str y:=by
         have:=encS_at ss i y hy
         rwa [show (Int.ofNat i).toNat*1=i from Nat.mul_one i] at this
        have y4:(!xae (Int.ofNat y.length) (Int.ofNat 440))=true:=by
         have h9:y.length ≠ 440:=fun h=>(by have:=badK_at okf (by rw [← hib];exact hy);rw [h] at this;cases this)
         rw [xaz,beq_eq_false_iff_ne.2 (fun h=>h9 (by injection h))];rfl
        have key:=s_b op sub pl fi ct la zs.length (xbs .u64 zs) da ss.length (encS ss) (w++xbw op (zs.take i) ss) lb lm lw zs.length i
        iterate 18
         replace key:=key (by
          (try simp only [cA,AV.intOf,e1,Nat.zero_add,Nat.mul_one,z0,hw,k0,xab,it,g0,g1,e6,e7,p1,rc,xac,Option.getD_some,wl,List.length_append,p4,k2,e8,AV.strOf,y4])
          first
           | done
           | with_reducible rfl
           | with_reducible exact xaw _ _
           | with_reducible exact xbm _
           | (simp [cA,e1,xbn,xbq,xag,xaq,AV.isInt,xac,p4];done)
           | (simp [cA,e1,xbn,xbq,xag,xaq,AV.isInt,xac,p4,wl];omega)
           | (simp [cA,e8,xbn,xbq,xaq,AV.isStr,AV.strOf,y4,wl,p4];done)
           | (simp [cA,e8,xbn,xbq,xaq,AV.isStr,AV.strOf,wl,p4];omega))
        simp only [cA,AV.intOf,e1,Nat.zero_add,Nat.mul_one,z0,hw,k0,xab,it,g0,g1,e6,e7,p1,rc,xac,Option.getD_some,p4,k2,e8,AV.strOf] at key
        have ec:w++cutS op zs ss i=w++xbw op (zs.take i) ss++xdf 4 x.toNat:=by unfold cutS;rw [hx,Option.getD_some,List.append_assoc]
        rw [ec]
        exact key) ⟨0,Nat.zero_le _⟩
     have e0:w++xbw op (zs.take 0) ss=w:=List.append_nil w
     simp only [e0] at key
     exact xbb.block 0 key
   · cases h
 · intro vs bs conds X vs' bs' h hc hin
   have h:s0 (vs,bs)=some (conds,X,vs',bs'):=h
   unfold s0 at h
   split at h
   · rename_i w lb lm lw m i op sub pl fi ct la ln lv da dn dv he
     injection he with he1 he2
     subst he1;subst he2
     injection h with h;injection h with e1 h;injection h with e2 h;injection h with e3 e4
     subst e1;subst e2;subst e3;subst e4
     simp only [xah] at hc
     obtain ⟨c1,c2,c3,c4,c5,c6,p1,c8,c9,c10,c11,_⟩:=hc
     obtain ⟨zs,rfl⟩:=xcj.1 c1
     obtain ⟨ss,rfl⟩:=xcx.1 c8
     have c2:=xaj c2
     have c3:=xaj c3
     have c4:=xaj c4
     have c9:=xaj c9
     rw [xag] at c2
     rw [xaq] at c9
     subst c2;subst c3;subst c4;subst c9
     have c5:=Nat.le_of_ble_eq_true c5
     have c6:=Nat.le_of_ble_eq_true c6
     have c10:op=2 → zs.length=ss.length:=of_decide_eq_true c10
     rw [xab,xba,xcn]
     have c11:(!(decide (op=2) && !okT xdd (encS ss)))=true:=c11
     have h440:op=2 → ∀ (j:Nat) (d:List UInt8),j < zs.length → ss[j]? = some d → d.length=440:=by
      intro ho j d _ hd
      rw [decide_eq_true ho,Bool.true_and,Bool.not_not] at c11
      exact xaj (okT_at c11 hd)
     have key:=xbb.loop (P:=Try.prog) (cx:=xdi tys) (nn:=194) (n0:=1) (b:=xbj (xbg Try.f59 0)) (fun q:{i:Nat // i ≤ zs.length}=>(sL.at s0).st ([.ptr (some (0,0)), .str [], .str (w++xbw op (zs.take q.1) ss), .fsl lb lm lw, .int .i64 (Int.ofNat zs.length), .int .i64 (Int.ofNat q.1)],[.cells true 108 7 [.int .u8 op, .int .u8 sub, .int .u8 pl, .int .u64 fi, .int .u8 ct, .fsl la zs.length (xbs .u64 zs), .fsl da ss.length (encS ss)]]))
      (fun q=>(.exit 0,(sL.at s0).st ([.ptr (some (0,0)), .str [], .str (w++xbw op zs ss), .fsl lb lm lw, .int .i64 (Int.ofNat zs.length), .int .i64 (Int.ofNat zs.length)],[.cells true 108 7 [.int .u8 op, .int .u8 sub, .int .u8 pl, .int .u64 fi, .int .u8 ct, .fsl la zs.length (xbs .u64 zs), .fsl da ss.length (encS ss)]]))) (fun q=>zs.length - q.1) (fun q=>by
      obtain ⟨i,hi⟩:=q
      simp only
      by_cases hlt:i < zs.length
      · refine .inl ⟨⟨i+1,hlt⟩,?_,trivial,by simp only;omega⟩
        obtain ⟨x,hx⟩:∃ x,zs[i]? = some x:=⟨_,List.getElem?_eq_getElem (by omega)⟩
        have e1:(xbp (List.drop i (xbs .u64 zs)) 0).getD AV.undef=.int .u64 (x.toNat:Int):=by
         have:=xpv .u64 zs i x hx
         rwa [show (Int.ofNat i).toNat*1=i from Nat.mul_one i] at this
        have k0:xak (Int.ofNat i) (Int.ofNat zs.length)=true:=by rw [xat];exact decide_eq_true (by show (i:Int) < (zs.length:Int);omega)
        have hw:xaf .i64 ((Int.ofNat i).add (Int.ofNat 1))=Int.ofNat (i+1):=xbe .i64 (i+1) (by show _ < 9223372036854775808;omega)
        have z0:(Int.ofNat i).toNat=i:=rfl
        have tk:zs.take (i+1)=zs.take i++[x]:=by rw [List.take_add_one,hx];rfl
        have tl:(zs.take i).length=i:=by rw [List.length_take];omega
        have g0:=u32_ge x
        have g1:=u32_lt' x
        have e6:=xaw .u64 zs
        have e7:=xbm ss
        have p4:(xdf 4 x.toNat).length=4:=xcv 4 _
        have it:(x.toNat:Int).toNat=x.toNat:=rfl
        have rc:xan (ofBytes (xdf 4 x.toNat)) 0 4=ofBytes (xdf 4 x.toNat):=xfl _ 4 p4
        have bl:(xbw op (zs.take i) ss).length=xda op i:=by
         have:=xgt op (zs.take i) ss (fun h=>by have:=c10 h;omega) (fun h j d hj hd=>h440 h j d (by omega) hd)
         rw [tl] at this;exact this
        have sb:xda op i ≤ 444*i:=by unfold xda;split <;> omega
        have wl:(w++xbw op (zs.take i) ss).length=w.length+xda op i:=by rw [List.length_append,bl]
        by_cases ho:op=2
        · obtain ⟨y,hy⟩:∃ y,ss[i]? = some y:=⟨_,List.getElem?_eq_getElem (by have:=c10 ho;omega)⟩
          have il:i < ss.length:=(List.getElem?_eq_some_iff.1 hy).1
          have k2:xae op (Int.ofNat 2)=true:=by rw [ho];rfl
          have e8:(xbp (List.drop i (encS ss)) 0).getD AV.undef=.str y:=by
           have:=encS_at ss i y hy
           rwa [show (Int.ofNat i).toNat*1=i from Nat.mul_one i] at this
          have y5:y.length=440:=h440 ho i y (by omega) hy
          have y4:(!xae (Int.ofNat y.length) (Int.ofNat 440))=false:=by rw [y5];rfl
          have key:=s_2 op sub pl fi ct la zs.length (xbs .u64 zs) da ss.length (encS ss) (w++xbw op (zs.take i) ss) lb lm lw zs.length i
          iterate 19
           replace key:=key (by
            (try simp only [cA,AV.intOf,e1,Nat.zero_add,Nat.mul_one,z0,hw,k0,xab,it,g0,g1,e6,e7,p1,rc,xac,Option.getD_some,wl,List.length_append,p4,k2,e8,AV.strOf,y4])
            first
             | done
             | with_reducible rfl
             | with_reducible exact xaw _ _
             | with_reducible exact xbm _
             | (simp [cA,e1,xbn,xbq,xag,xaq,AV.isInt,xac,p4];done)
             | (simp [cA,e1,xbn,xbq,xag,xaq,AV.isInt,xac,p4,wl];omega)
             | (simp [cA,e8,xbn,xbq,xaq,AV.isStr,AV.strOf,y4,wl,p4,y5];done)
             | (simp [cA,e8,xbn,xbq,xaq,AV.isStr,AV.strOf,wl,p4,y5];omega))
          simp only [cA,AV.intOf,e1,Nat.zero_add,Nat.mul_one,z0,hw,k0,xab,it,g0,g1,e6,e7,p1,rc,xac,Option.getD_some,p4,k2,e8,AV.strOf] at key
          have eb:w++xbw op (zs.take i) ss++xdf 4 x.toNat++y=w++xbw op (zs.take (i+1)) ss:=by rw [tk,xdv,tl,if_pos ho,hy];simp [List.append_assoc]
          rw [eb] at key
          exact key
        · have k2:xae op (Int.ofNat 2)=false:=by rw [xaz];exact beq_eq_false_iff_ne.2 ho
          have key:=s_3 op sub pl fi ct la zs.length (xbs .u64 zs) da ss.length (encS ss) (w++xbw op (zs.take i) ss) lb lm lw zs.length i
          iterate 13
           replace key:=key (by
            (try simp only [cA,AV.intOf,e1,Nat.zero_add,Nat.mul_one,z0,hw,k0,xab,it,g0,g1,e6,e7,p1,rc,xac,Option.getD_some,wl,List.length_append,p4,k2])
            first
             | done
             | with_reducible rfl
             | with_reducible exact xaw _ _
             | with_reducible exact xbm _
             | (simp [cA,e1,xbn,xbq,xag,xaq,AV.isInt,xac,p4];done)
             | (simp [cA,e1,xbn,xbq,xag,xaq,AV.isInt,xac,p4,wl];omega))
          simp only [cA,AV.intOf,e1,Nat.zero_add,Nat.mul_one,z0,hw,k0,xab,it,g0,g1,e6,e7,p1,rc,xac,Option.getD_some,p4,k2] at key
          have eb:w++xbw op (zs.take i) ss++xdf 4 x.toNat=w++xbw op (zs.take (i+1)) ss:=by rw [tk,xdv,tl,if_neg ho];simp [List.append_assoc]
          rw [eb] at key
          exact key
      · have hi:i=zs.length:=by omega
        subst hi
        refine .inr ⟨?_,by simp⟩
        have k0:xak (Int.ofNat zs.length) (Int.ofNat zs.length)=false:=by rw [xat];exact decide_eq_false (by show ¬ (zs.length:Int) < (zs.length:Int);omega)
        have et:zs.take zs.length=zs:=List.take_length
        rw [et]
        exact s_e op sub pl fi ct la zs.length (xbs .u64 zs) da ss.length (encS ss) (w++xbw op zs ss) lb lm lw zs.length zs.length k0 p1 (xaw _ _) (xbm _)) ⟨0,Nat.zero_le _⟩
     have e0:w++xbw op (zs.take 0) ss=w:=List.append_nil w
     simp only [e0] at key
     exact xbb.block 0 key
   · cases h
end Go.Proofs.Ytecncappdnhbaaa
end
end

section
noncomputable section
namespace Go.Proofs.Ytecncappdnhbaaa
open Go.Ab.M Go.Ab Go
def K10h:xem:={ t:=T10d,l:=[((57,1),wwL),((58,0),aL),((58,2),dL),((59,0),sL)] }
theorem K10h_ok:KOK Try.prog tys K10h:=⟨T10d_ok,trivial,trivial,trivial,⟨wwL_ok,aL_ok,dL_ok,sL_ok,trivial⟩⟩
abbrev xpz:=xdt tys fns K10h
theorem all10h:xcy Try.prog xpz:=xdw K10h_ok
end Go.Proofs.Ytecncappdnhbaaa
end
end

section
noncomputable section
namespace Go.Ab.M
def xgd (op sub pl fi ct:Int) (zs:List UInt32) (ss:List (List UInt8)):List UInt8 :=
 if op=1 then UInt8.ofNat op.toNat::(xdf 4 fi.toNat++[UInt8.ofNat ct.toNat])
 else if op=2 ∨ op=3 then [UInt8.ofNat op.toNat,UInt8.ofNat zs.length]++xbw op zs ss
 else if op=4 then [UInt8.ofNat op.toNat]
 else [UInt8.ofNat op.toNat,UInt8.ofNat sub.toNat,UInt8.ofNat pl.toNat]
def xkw (op:Int) (ln:Nat):Nat:=if op=1 then 6 else if op=2 ∨ op=3 then 2+xda op ln else if op=4 then 1 else 3
def xeb (op sub pl fi ct:Int) (ln dn:Nat) (zs:List UInt32) (ss:List (List UInt8)):List UInt8 :=
 if xau op sub pl fi ct ln dn∧okT xdd (encS ss)=true then xgd op sub pl fi ct zs ss else []
end Go.Ab.M
namespace Go.Proofs.Ytecncappdnhbaaa
open Go.Ab.M Go.Ab Go
theorem By_t (op sub pl fi ct:Int) (la:Bool) (ln:Nat) (lv:List AV) (da:Bool) (dn:Nat) (dv:List AV) (h0:(AV.plainL lv)=true) (h1:(AV.plainL dv)=true) (h2:(xbr (Int.ofNat 0) (AV.int IntKind.u8 sub).intOf)=true) (h3:(xbr (Int.ofNat 0) (AV.int IntKind.u8 pl).intOf)=true) (h4:(xbr (Int.ofNat 0) (AV.int IntKind.u8 ct).intOf)=true) (h5:(xbr (AV.int IntKind.u8 ct).intOf (Int.ofNat 255))=true) (h6:(isD dv)=true) (h7:(dv.length.beq dn)=true) (h8:(dn.ble 1099511627776)=true) (h9:(!kept (xbi (AV.int IntKind.u8 op).intOf (AV.int IntKind.u8 sub).intOf (AV.int IntKind.u8 pl).intOf (AV.int IntKind.u32 fi).intOf (AV.int IntKind.u8 ct).intOf ln dn dv))=true) :
 ∃ h',xbl xpz 60 (Tgt.fn 57) [.agg [.int .u8 op, .int .u8 sub, .int .u8 pl, .int .u32 fi, .int .u8 ct, .fsl la ln lv, .fsl da dn dv]] H0=some (AV.tuple [.slice none 0 (some 0), .int .i64 (Int.ofNat 2)],h')∧[].map h'.get=[] :=
 xaa (q:=qNs [17,0,0,0,0,0,0,0,0,0,0,0]) (c:=(cnT::cnT::cnT::cnT::cnT::cnT::cnT::cnT::cnT::cnT::cnT::[])) (by kernel_rfl) ⟨h0,h1,h2,h3,h4,h5,h6,h7,h8,h0,h9,trivial⟩
theorem By_ft (op sub pl fi ct:Int) (la:Bool) (ln:Nat) (lv:List AV) (da:Bool) (dn:Nat) (dv:List AV) (h0:(AV.plainL lv)=true) (h1:(AV.plainL dv)=true) (h2:(xbr (Int.ofNat 0) (AV.int IntKind.u8 sub).intOf)=true) (h3:(xbr (Int.ofNat 0) (AV.int IntKind.u8 pl).intOf)=true) (h4:(xbr (Int.ofNat 0) (AV.int IntKind.u8 ct).intOf)=true) (h5:(xbr (AV.int IntKind.u8 ct).intOf (Int.ofNat 255))=true) (h6:(isD dv)=true) (h7:(dv.length.beq dn)=true) (h8:(dn.ble 1099511627776)=true) (h9:(!kept (xbi (AV.int IntKind.u8 op).intOf (AV.int IntKind.u8 sub).intOf (AV.int IntKind.u8 pl).intOf (AV.int IntKind.u32 fi).intOf (AV.int IntKind.u8 ct).intOf ln dn dv))=false) (h10:(xae (AV.int IntKind.u8 op).intOf (Int.ofNat 1))=true) (h11:(u8L [AV.int IntKind.u8 (AV.int IntKind.u8 op).intOf])=true) (h12:(xbr (Int.ofNat 0) (AV.int IntKind.u32 fi).intOf)=true) (h13:(xak (AV.int IntKind.u32 fi).intOf (Int.ofNat 4294967296))=true) :
 ∃ h',xbl xpz 60 (Tgt.fn 57) [.agg [.int .u8 op, .int .u8 sub, .int .u8 pl, .int .u32 fi, .int .u8 ct, .fsl la ln lv, .fsl da dn dv]] H0=some (AV.tuple [.slice (some (4,0)) 6 none, .int .i64 (Int.ofNat 0)],h')∧[4].map h'.get=[.cells true 5 (kept (ofBytes [UInt8.ofNat (AV.int IntKind.u8 (AV.int IntKind.u8 op).intOf).intOf.toNat,UInt8.ofNat ((AV.int IntKind.u32 fi).intOf.toNat / 16777216),UInt8.ofNat ((AV.int IntKind.u32 fi).intOf.toNat / 65536),UInt8.ofNat ((AV.int IntKind.u32 fi).intOf.toNat / 256),UInt8.ofNat ((AV.int IntKind.u32 fi).intOf.toNat / 1)])++[AV.int IntKind.u8 (AV.int IntKind.u8 ct).intOf]).length (kept (ofBytes [UInt8.ofNat (AV.int IntKind.u8 (AV.int IntKind.u8 op).intOf).intOf.toNat,UInt8.ofNat ((AV.int IntKind.u32 fi).intOf.toNat / 16777216),UInt8.ofNat ((AV.int IntKind.u32 fi).intOf.toNat / 65536),UInt8.ofNat ((AV.int IntKind.u32 fi).intOf.toNat / 256),UInt8.ofNat ((AV.int IntKind.u32 fi).intOf.toNat / 1)])++[AV.int IntKind.u8 (AV.int IntKind.u8 ct).intOf])] :=
 xaa (q:=qNs [17,0,0,0,0,0,0,0,0,0,0,1,11,0,14,0,3,0,0,12,0,7,0,5,0,6,0,6,0,3]) (c:=(cnT::cnT::cnT::cnT::cnT::cnT::cnT::cnT::cnT::cnT::cnF::cnT::cnT::cnT::cnT::Cnd.same (AV.int IntKind.u32 (AV.int IntKind.u32 fi).intOf) (AV.int IntKind.u32 (AV.int IntKind.u32 fi).intOf)::Cnd.same (AV.int IntKind.u8 (AV.int IntKind.u8 ct).intOf) (AV.int IntKind.u8 (AV.int IntKind.u8 ct).intOf)::Cnd.same (AV.int IntKind.u8 (AV.int IntKind.u8 ct).intOf) (AV.int IntKind.u8 (AV.int IntKind.u8 ct).intOf)::Cnd.same (AV.agg [AV.int IntKind.u8 (AV.int IntKind.u8 ct).intOf]) (AV.agg [AV.int IntKind.u8 (AV.int IntKind.u8 ct).intOf])::Cnd.same (AV.agg [AV.int IntKind.u8 (AV.int IntKind.u8 ct).intOf]) (AV.agg [AV.int IntKind.u8 (AV.int IntKind.u8 ct).intOf])::[])) (by kernel_rfl) ⟨h0,h1,h2,h3,h4,h5,h6,h7,h8,h0,h9,h10,h11,h12,h13,rfl,rfl,rfl,rfl,rfl,trivial⟩
theorem By_fft (op sub pl fi ct:Int) (la:Bool) (ln:Nat) (lv:List AV) (da:Bool) (dn:Nat) (dv:List AV) (h0:(AV.plainL lv)=true) (h1:(AV.plainL dv)=true) (h2:(xbr (Int.ofNat 0) (AV.int IntKind.u8 sub).intOf)=true) (h3:(xbr (Int.ofNat 0) (AV.int IntKind.u8 pl).intOf)=true) (h4:(xbr (Int.ofNat 0) (AV.int IntKind.u8 ct).intOf)=true) (h5:(xbr (AV.int IntKind.u8 ct).intOf (Int.ofNat 255))=true) (h6:(isD dv)=true) (h7:(dv.length.beq dn)=true) (h8:(dn.ble 1099511627776)=true) (h9:(!kept (xbi (AV.int IntKind.u8 op).intOf (AV.int IntKind.u8 sub).intOf (AV.int IntKind.u8 pl).intOf (AV.int IntKind.u32 fi).intOf (AV.int IntKind.u8 ct).intOf ln dn dv))=false) (h10:(xae (AV.int IntKind.u8 op).intOf (Int.ofNat 1))=false) (h11:(xae (AV.int IntKind.u8 op).intOf (Int.ofNat 2))=true) (h12:(u8L [AV.int IntKind.u8 (AV.int IntKind.u8 op).intOf,AV.int IntKind.u8 (xaf IntKind.u8 (Int.ofNat ln))])=true) (h13:(isU IntKind.u32 lv)=true) (h14:(lv.length.beq ln)=true) (h15:(ln.beq ln)=true) (h16:(Nat.ble 1 ln)=true) (h17:(ln.ble 16)=true) (h18:(xqt op ln dn dv)=true) (h19:(AV.plainL (kept (ofBytes ([UInt8.ofNat (AV.int IntKind.u8 (AV.int IntKind.u8 op).intOf).intOf.toNat,UInt8.ofNat (AV.int IntKind.u8 (xaf IntKind.u8 (Int.ofNat ln))).intOf.toNat]++xbw op (xbt lv) (xjd dv)))))=true) :
 ∃ h',xbl xpz 60 (Tgt.fn 57) [.agg [.int .u8 op, .int .u8 sub, .int .u8 pl, .int .u32 fi, .int .u8 ct, .fsl la ln lv, .fsl da dn dv]] H0=some (AV.tuple [.slice (some (4,0)) (kept (2+xda op ln)) none, .int .i64 (Int.ofNat 0)],h')∧[4].map h'.get=[.cells true 5 (kept (2+xda op ln)) (kept (ofBytes ([UInt8.ofNat (AV.int IntKind.u8 (AV.int IntKind.u8 op).intOf).intOf.toNat,UInt8.ofNat (AV.int IntKind.u8 (xaf IntKind.u8 (Int.ofNat ln))).intOf.toNat]++xbw op (xbt lv) (xjd dv))))] :=
 xaa (q:=qNs [17,0,0,0,0,0,0,0,0,0,0,1,11,1,0,0,24,0,3,0,0,6,0,3,0,0,4,0,4,0,0,0,3,0,0,3,0,0,0,0,5,0,3,0,0,5,0]) (c:=(cnT::cnT::cnT::cnT::cnT::cnT::cnT::cnT::cnT::cnT::cnF::cnF::cnT::cnT::Cnd.code (ZLT.lsumS (xbz tys) ((57,1),wwL).snd).fst (ZLT.lsumS (xbz tys) ((57,1),wwL).snd).fst::cnT::cnT::cnT::cnT::cnT::cnT::cnT::cnT::cnT::cnT::cnT::cnT::cnT::cnT::cnT::cnT::cnT::cnT::cnT::cnT::[])) (by kernel_rfl) ⟨h0,h1,h2,h3,h4,h5,h6,h7,h8,h0,h9,h10,h11,h11,rfl,h0,h0,h1,h0,h0,h1,h12,h13,h14,h15,h16,h17,h0,h6,h7,h18,h0,h0,h1,h19,trivial⟩
theorem By_ffft (op sub pl fi ct:Int) (la:Bool) (ln:Nat) (lv:List AV) (da:Bool) (dn:Nat) (dv:List AV) (h0:(AV.plainL lv)=true) (h1:(AV.plainL dv)=true) (h2:(xbr (Int.ofNat 0) (AV.int IntKind.u8 sub).intOf)=true) (h3:(xbr (Int.ofNat 0) (AV.int IntKind.u8 pl).intOf)=true) (h4:(xbr (Int.ofNat 0) (AV.int IntKind.u8 ct).intOf)=true) (h5:(xbr (AV.int IntKind.u8 ct).intOf (Int.ofNat 255))=true) (h6:(isD dv)=true) (h7:(dv.length.beq dn)=true) (h8:(dn.ble 1099511627776)=true) (h9:(!kept (xbi (AV.int IntKind.u8 op).intOf (AV.int IntKind.u8 sub).intOf (AV.int IntKind.u8 pl).intOf (AV.int IntKind.u32 fi).intOf (AV.int IntKind.u8 ct).intOf ln dn dv))=false) (h10:(xae (AV.int IntKind.u8 op).intOf (Int.ofNat 1))=false) (h11:(xae (AV.int IntKind.u8 op).intOf (Int.ofNat 2))=false) (h12:(xae (AV.int IntKind.u8 op).intOf (Int.ofNat 3))=true) (h13:(u8L [AV.int IntKind.u8 (AV.int IntKind.u8 op).intOf,AV.int IntKind.u8 (xaf IntKind.u8 (Int.ofNat ln))])=true) (h14:(isU IntKind.u32 lv)=true) (h15:(lv.length.beq ln)=true) (h16:(ln.beq ln)=true) (h17:(Nat.ble 1 ln)=true) (h18:(ln.ble 16)=true) (h19:(xqt op ln dn dv)=true) (h20:(AV.plainL (kept (ofBytes ([UInt8.ofNat (AV.int IntKind.u8 (AV.int IntKind.u8 op).intOf).intOf.toNat,UInt8.ofNat (AV.int IntKind.u8 (xaf IntKind.u8 (Int.ofNat ln))).intOf.toNat]++xbw op (xbt lv) (xjd dv)))))=true) :
 ∃ h',xbl xpz 60 (Tgt.fn 57) [.agg [.int .u8 op, .int .u8 sub, .int .u8 pl, .int .u32 fi, .int .u8 ct, .fsl la ln lv, .fsl da dn dv]] H0=some (AV.tuple [.slice (some (4,0)) (kept (2+xda op ln)) none, .int .i64 (Int.ofNat 0)],h')∧[4].map h'.get=[.cells true 5 (kept (2+xda op ln)) (kept (ofBytes ([UInt8.ofNat (AV.int IntKind.u8 (AV.int IntKind.u8 op).intOf).intOf.toNat,UInt8.ofNat (AV.int IntKind.u8 (xaf IntKind.u8 (Int.ofNat ln))).intOf.toNat]++xbw op (xbt lv) (xjd dv))))] :=
 xaa (q:=qNs [17,0,0,0,0,0,0,0,0,0,0,1,11,1,1,0,24,0,3,0,0,6,0,3,0,0,4,0,4,0,0,0,3,0,0,3,0,0,0,0,5,0,3,0,0,5,0]) (c:=(cnT::cnT::cnT::cnT::cnT::cnT::cnT::cnT::cnT::cnT::cnF::cnF::cnF::cnT::Cnd.code (ZLT.lsumS (xbz tys) ((57,1),wwL).snd).fst (ZLT.lsumS (xbz tys) ((57,1),wwL).snd).fst::cnT::cnT::cnT::cnT::cnT::cnT::cnT::cnT::cnT::cnT::cnT::cnT::cnT::cnT::cnT::cnT::cnT::cnT::cnT::cnT::[])) (by kernel_rfl) ⟨h0,h1,h2,h3,h4,h5,h6,h7,h8,h0,h9,h10,h11,h12,rfl,h0,h0,h1,h0,h0,h1,h13,h14,h15,h16,h17,h18,h0,h6,h7,h19,h0,h0,h1,h20,trivial⟩
theorem By_fffft (op sub pl fi ct:Int) (la:Bool) (ln:Nat) (lv:List AV) (da:Bool) (dn:Nat) (dv:List AV) (h0:(AV.plainL lv)=true) (h1:(AV.plainL dv)=true) (h2:(xbr (Int.ofNat 0) (AV.int IntKind.u8 sub).intOf)=true) (h3:(xbr (Int.ofNat 0) (AV.int IntKind.u8 pl).intOf)=true) (h4:(xbr (Int.ofNat 0) (AV.int IntKind.u8 ct).intOf)=true) (h5:(xbr (AV.int IntKind.u8 ct).intOf (Int.ofNat 255))=true) (h6:(isD dv)=true) (h7:(dv.length.beq dn)=true) (h8:(dn.ble 1099511627776)=true) (h9:(!kept (xbi (AV.int IntKind.u8 op).intOf (AV.int IntKind.u8 sub).intOf (AV.int IntKind.u8 pl).intOf (AV.int IntKind.u32 fi).intOf (AV.int IntKind.u8 ct).intOf ln dn dv))=false) (h10:(xae (AV.int IntKind.u8 op).intOf (Int.ofNat 1))=false) (h11:(xae (AV.int IntKind.u8 op).intOf (Int.ofNat 2))=false) (h12:(xae (AV.int IntKind.u8 op).intOf (Int.ofNat 3))=false) (h13:(xae (AV.int IntKind.u8 op).intOf (Int.ofNat 5))=true) :
 ∃ h',xbl xpz 60 (Tgt.fn 57) [.agg [.int .u8 op, .int .u8 sub, .int .u8 pl, .int .u32 fi, .int .u8 ct, .fsl la ln lv, .fsl da dn dv]] H0=some (AV.tuple [.slice (some (3,0)) 3 none, .int .i64 (Int.ofNat 0)],h')∧[3].map h'.get=[.cells true 5 3 [.int .u8 (AV.int IntKind.u8 op).intOf, .int .u8 (AV.int IntKind.u8 sub).intOf, .int .u8 (AV.int IntKind.u8 pl).intOf]] :=
 xaa (q:=qNs [17,0,0,0,0,0,0,0,0,0,0,1,11,1,1,1,0,0,18]) (c:=(cnT::cnT::cnT::cnT::cnT::cnT::cnT::cnT::cnT::cnT::cnF::cnF::cnF::cnF::cnT::cnT::[])) (by kernel_rfl) ⟨h0,h1,h2,h3,h4,h5,h6,h7,h8,h0,h9,h10,h11,h12,h13,h13,trivial⟩
theorem By_ffffft (op sub pl fi ct:Int) (la:Bool) (ln:Nat) (lv:List AV) (da:Bool) (dn:Nat) (dv:List AV) (h0:(AV.plainL lv)=true) (h1:(AV.plainL dv)=true) (h2:(xbr (Int.ofNat 0) (AV.int IntKind.u8 sub).intOf)=true) (h3:(xbr (Int.ofNat 0) (AV.int IntKind.u8 pl).intOf)=true) (h4:(xbr (Int.ofNat 0) (AV.int IntKind.u8 ct).intOf)=true) (h5:(xbr (AV.int IntKind.u8 ct).intOf (Int.ofNat 255))=true) (h6:(isD dv)=true) (h7:(dv.length.beq dn)=true) (h8:(dn.ble 1099511627776)=true) (h9:(!kept (xbi (AV.int IntKind.u8 op).intOf (AV.int IntKind.u8 sub).intOf (AV.int IntKind.u8 pl).intOf (AV.int IntKind.u32 fi).intOf (AV.int IntKind.u8 ct).intOf ln dn dv))=false) (h10:(xae (AV.int IntKind.u8 op).intOf (Int.ofNat 1))=false) (h11:(xae (AV.int IntKind.u8 op).intOf (Int.ofNat 2))=false) (h12:(xae (AV.int IntKind.u8 op).intOf (Int.ofNat 3))=false) (h13:(xae (AV.int IntKind.u8 op).intOf (Int.ofNat 5))=false) (h14:(xae (AV.int IntKind.u8 op).intOf (Int.ofNat 6))=true) :
 ∃ h',xbl xpz 60 (Tgt.fn 57) [.agg [.int .u8 op, .int .u8 sub, .int .u8 pl, .int .u32 fi, .int .u8 ct, .fsl la ln lv, .fsl da dn dv]] H0=some (AV.tuple [.slice (some (3,0)) 3 none, .int .i64 (Int.ofNat 0)],h')∧[3].map h'.get=[.cells true 5 3 [.int .u8 (AV.int IntKind.u8 op).intOf, .int .u8 (AV.int IntKind.u8 sub).intOf, .int .u8 (AV.int IntKind.u8 pl).intOf]] :=
 xaa (q:=qNs [17,0,0,0,0,0,0,0,0,0,0,1,11,1,1,1,1,0,0,18]) (c:=(cnT::cnT::cnT::cnT::cnT::cnT::cnT::cnT::cnT::cnT::cnF::cnF::cnF::cnF::cnF::cnT::cnT::[])) (by kernel_rfl) ⟨h0,h1,h2,h3,h4,h5,h6,h7,h8,h0,h9,h10,h11,h12,h13,h14,h14,trivial⟩
theorem By_fffffft (op sub pl fi ct:Int) (la:Bool) (ln:Nat) (lv:List AV) (da:Bool) (dn:Nat) (dv:List AV) (h0:(AV.plainL lv)=true) (h1:(AV.plainL dv)=true) (h2:(xbr (Int.ofNat 0) (AV.int IntKind.u8 sub).intOf)=true) (h3:(xbr (Int.ofNat 0) (AV.int IntKind.u8 pl).intOf)=true) (h4:(xbr (Int.ofNat 0) (AV.int IntKind.u8 ct).intOf)=true) (h5:(xbr (AV.int IntKind.u8 ct).intOf (Int.ofNat 255))=true) (h6:(isD dv)=true) (h7:(dv.length.beq dn)=true) (h8:(dn.ble 1099511627776)=true) (h9:(!kept (xbi (AV.int IntKind.u8 op).intOf (AV.int IntKind.u8 sub).intOf (AV.int IntKind.u8 pl).intOf (AV.int IntKind.u32 fi).intOf (AV.int IntKind.u8 ct).intOf ln dn dv))=false) (h10:(xae (AV.int IntKind.u8 op).intOf (Int.ofNat 1))=false) (h11:(xae (AV.int IntKind.u8 op).intOf (Int.ofNat 2))=false) (h12:(xae (AV.int IntKind.u8 op).intOf (Int.ofNat 3))=false) (h13:(xae (AV.int IntKind.u8 op).intOf (Int.ofNat 5))=false) (h14:(xae (AV.int IntKind.u8 op).intOf (Int.ofNat 6))=false) (h15:(xae (AV.int IntKind.u8 op).intOf (Int.ofNat 7))=true) :
 ∃ h',xbl xpz 60 (Tgt.fn 57) [.agg [.int .u8 op, .int .u8 sub, .int .u8 pl, .int .u32 fi, .int .u8 ct, .fsl la ln lv, .fsl da dn dv]] H0=some (AV.tuple [.slice (some (3,0)) 3 none, .int .i64 (Int.ofNat 0)],h')∧[3].map h'.get=[.cells true 5 3 [.int .u8 (AV.int IntKind.u8 op).intOf, .int .u8 (AV.int IntKind.u8 sub).intOf, .int .u8 (AV.int IntKind.u8 pl).intOf]] :=
 xaa (q:=qNs [17,0,0,0,0,0,0,0,0,0,0,1,11,1,1,1,1,1,0,18]) (c:=(cnT::cnT::cnT::cnT::cnT::cnT::cnT::cnT::cnT::cnT::cnF::cnF::cnF::cnF::cnF::cnF::cnT::[])) (by kernel_rfl) ⟨h0,h1,h2,h3,h4,h5,h6,h7,h8,h0,h9,h10,h11,h12,h13,h14,h15,trivial⟩
theorem By_fffffff (op sub pl fi ct:Int) (la:Bool) (ln:Nat) (lv:List AV) (da:Bool) (dn:Nat) (dv:List AV) (h0:(AV.plainL lv)=true) (h1:(AV.plainL dv)=true) (h2:(xbr (Int.ofNat 0) (AV.int IntKind.u8 sub).intOf)=true) (h3:(xbr (Int.ofNat 0) (AV.int IntKind.u8 pl).intOf)=true) (h4:(xbr (Int.ofNat 0) (AV.int IntKind.u8 ct).intOf)=true) (h5:(xbr (AV.int IntKind.u8 ct).intOf (Int.ofNat 255))=true) (h6:(isD dv)=true) (h7:(dv.length.beq dn)=true) (h8:(dn.ble 1099511627776)=true) (h9:(!kept (xbi (AV.int IntKind.u8 op).intOf (AV.int IntKind.u8 sub).intOf (AV.int IntKind.u8 pl).intOf (AV.int IntKind.u32 fi).intOf (AV.int IntKind.u8 ct).intOf ln dn dv))=false) (h10:(xae (AV.int IntKind.u8 op).intOf (Int.ofNat 1))=false) (h11:(xae (AV.int IntKind.u8 op).intOf (Int.ofNat 2))=false) (h12:(xae (AV.int IntKind.u8 op).intOf (Int.ofNat 3))=false) (h13:(xae (AV.int IntKind.u8 op).intOf (Int.ofNat 5))=false) (h14:(xae (AV.int IntKind.u8 op).intOf (Int.ofNat 6))=false) (h15:(xae (AV.int IntKind.u8 op).intOf (Int.ofNat 7))=false) :
 ∃ h',xbl xpz 60 (Tgt.fn 57) [.agg [.int .u8 op, .int .u8 sub, .int .u8 pl, .int .u32 fi, .int .u8 ct, .fsl la ln lv, .fsl da dn dv]] H0=some (AV.tuple [.slice (some (1,0)) 1 (some 1), .int .i64 (Int.ofNat 0)],h')∧[1].map h'.get=[.cells true 5 1 [.int .u8 (AV.int IntKind.u8 op).intOf]] :=
 xaa (q:=qNs [17,0,0,0,0,0,0,0,0,0,0,1,11,1,1,1,1,1,1]) (c:=(cnT::cnT::cnT::cnT::cnT::cnT::cnT::cnT::cnT::cnT::cnF::cnF::cnF::cnF::cnF::cnF::cnF::[])) (by kernel_rfl) ⟨h0,h1,h2,h3,h4,h5,h6,h7,h8,h0,h9,h10,h11,h12,h13,h14,h15,trivial⟩
theorem Rf_tt (op sub pl fi ct:Int) (la:Bool) (ln:Nat) (lv:List AV) (da:Bool) (dn:Nat) (dv:List AV) (h0:(ln.beq 0)=true) (h1:(AV.plainL lv)=true) (h2:(AV.plainL dv)=true) (h3:(dn.beq 0)=true) :
 ∃ h',xbl xpz 60 (Tgt.fn 58) [.agg [.int .u8 op, .int .u8 sub, .int .u8 pl, .int .u32 fi, .int .u8 ct, .fsl la ln lv, .fsl da dn dv]] H0=some (AV.agg [.int .u8 (AV.int IntKind.u8 (AV.int IntKind.u8 (AV.int IntKind.u8 op).intOf).intOf).intOf, .int .u8 (AV.int IntKind.u8 (AV.int IntKind.u8 (AV.int IntKind.u8 sub).intOf).intOf).intOf, .int .u8 (AV.int IntKind.u8 (AV.int IntKind.u8 (AV.int IntKind.u8 pl).intOf).intOf).intOf, .int .u64 (AV.int IntKind.u64 (AV.int IntKind.u64 (xaf IntKind.u64 (AV.int IntKind.u32 fi).intOf)).intOf).intOf, .int .u8 (AV.int IntKind.u8 (AV.int IntKind.u8 (AV.int IntKind.u8 ct).intOf).intOf).intOf, .slice none 0 (some 0), .slice none 0 (some 0)],h')∧[].map h'.get=[] :=
 xaa (q:=qNs [33,0,13,0,3,0,0,7,0,3,0,0,4,0,3,0,0,0,6,0,3,0,0,8,0,10,0,6,0,4,0,3,0,5,0,37]) (c:=(Cnd.code (ZLT.lsumS (xbz tys) ((58,0),aL).snd).fst (ZLT.lsumS (xbz tys) ((58,0),aL).snd).fst::cnT::cnT::cnT::cnT::cnT::cnT::cnT::cnT::cnT::cnT::cnT::cnT::cnT::cnT::Cnd.code (ZLT.lsumS (xbz tys) ((58,2),dL).snd).fst (ZLT.lsumS (xbz tys) ((58,2),dL).snd).fst::cnT::cnT::cnT::cnT::cnT::cnT::[])) (by kernel_rfl) ⟨rfl,h0,h1,h1,h2,h1,h1,h2,h0,h1,h1,h2,h1,h1,h2,rfl,h3,h2,h2,h3,h2,h2,trivial⟩
theorem Rf_tf (op sub pl fi ct:Int) (la:Bool) (ln:Nat) (lv:List AV) (da:Bool) (dn:Nat) (dv:List AV) (h0:(ln.beq 0)=true) (h1:(AV.plainL lv)=true) (h2:(AV.plainL dv)=true) (h3:(dn.beq 0)=false) (h4:(isD dv)=true) (h5:(dv.length.beq dn)=true) (h6:(dn.beq dn)=true) (h7:(Nat.ble 1 dn)=true) (h8:(dn.ble 900)=true) (h9:(AV.plainL (kept (encS (List.map Prod.snd (xoi dv)))))=true) :
 ∃ h',xbl xpz 60 (Tgt.fn 58) [.agg [.int .u8 op, .int .u8 sub, .int .u8 pl, .int .u32 fi, .int .u8 ct, .fsl la ln lv, .fsl da dn dv]] H0=some (AV.agg [.int .u8 (AV.int IntKind.u8 (AV.int IntKind.u8 (AV.int IntKind.u8 op).intOf).intOf).intOf, .int .u8 (AV.int IntKind.u8 (AV.int IntKind.u8 (AV.int IntKind.u8 sub).intOf).intOf).intOf, .int .u8 (AV.int IntKind.u8 (AV.int IntKind.u8 (AV.int IntKind.u8 pl).intOf).intOf).intOf, .int .u64 (AV.int IntKind.u64 (AV.int IntKind.u64 (xaf IntKind.u64 (AV.int IntKind.u32 fi).intOf)).intOf).intOf, .int .u8 (AV.int IntKind.u8 (AV.int IntKind.u8 (AV.int IntKind.u8 ct).intOf).intOf).intOf, .slice none 0 (some 0), .slice (some (3,0)) dn none],h')∧[3].map h'.get=[.cells true 9 dn (kept (encS (List.map Prod.snd (xoi dv))))] :=
 xaa (q:=qNs [33,0,13,0,3,0,0,7,0,3,0,0,4,0,3,0,0,0,6,0,3,0,0,8,1,10,0,6,0,4,0,0,0,3,0,0,5,0,6,0,35]) (c:=(Cnd.code (ZLT.lsumS (xbz tys) ((58,0),aL).snd).fst (ZLT.lsumS (xbz tys) ((58,0),aL).snd).fst::cnT::cnT::cnT::cnT::cnT::cnT::cnT::cnT::cnT::cnT::cnT::cnT::cnT::cnT::Cnd.code (ZLT.lsumS (xbz tys) ((58,2),dL).snd).fst (ZLT.lsumS (xbz tys) ((58,2),dL).snd).fst::cnF::cnT::cnT::cnT::cnT::cnT::cnT::cnT::cnT::cnT::[])) (by kernel_rfl) ⟨rfl,h0,h1,h1,h2,h1,h1,h2,h0,h1,h1,h2,h1,h1,h2,rfl,h3,h2,h2,h4,h5,h6,h7,h8,h2,h9,trivial⟩
theorem Rf_ft (op sub pl fi ct:Int) (la:Bool) (ln:Nat) (lv:List AV) (da:Bool) (dn:Nat) (dv:List AV) (h0:(ln.beq 0)=false) (h1:(AV.plainL lv)=true) (h2:(AV.plainL dv)=true) (h3:(isU IntKind.u32 lv)=true) (h4:(lv.length.beq ln)=true) (h5:(ln.beq ln)=true) (h6:(Nat.ble 1 ln)=true) (h7:(ln.ble 900)=true) (h8:(AV.plainL (kept (xbs IntKind.u64 (xbt lv))))=true) (h9:(dn.beq 0)=true) :
 ∃ h',xbl xpz 60 (Tgt.fn 58) [.agg [.int .u8 op, .int .u8 sub, .int .u8 pl, .int .u32 fi, .int .u8 ct, .fsl la ln lv, .fsl da dn dv]] H0=some (AV.agg [.int .u8 (AV.int IntKind.u8 (AV.int IntKind.u8 (AV.int IntKind.u8 op).intOf).intOf).intOf, .int .u8 (AV.int IntKind.u8 (AV.int IntKind.u8 (AV.int IntKind.u8 sub).intOf).intOf).intOf, .int .u8 (AV.int IntKind.u8 (AV.int IntKind.u8 (AV.int IntKind.u8 pl).intOf).intOf).intOf, .int .u64 (AV.int IntKind.u64 (AV.int IntKind.u64 (xaf IntKind.u64 (AV.int IntKind.u32 fi).intOf)).intOf).intOf, .int .u8 (AV.int IntKind.u8 (AV.int IntKind.u8 (AV.int IntKind.u8 ct).intOf).intOf).intOf, .slice (some (3,0)) ln none, .slice none 0 (some 0)],h')∧[3].map h'.get=[.cells true 22 ln (kept (xbs IntKind.u64 (xbt lv)))] :=
 xaa (q:=qNs [33,1,13,0,3,0,0,7,0,3,0,0,4,0,0,0,3,0,0,0,0,6,0,3,0,0,6,0,6,0,12,0,6,0,4,0,6,0,0,3,0,0,5,0,6,0,35]) (c:=(Cnd.code (ZLT.lsumS (xbz tys) ((58,0),aL).snd).fst (ZLT.lsumS (xbz tys) ((58,0),aL).snd).fst::cnF::cnT::cnT::cnT::cnT::cnT::cnT::cnT::cnT::cnT::cnT::cnT::cnT::cnT::cnT::cnT::cnT::cnT::Cnd.code (ZLT.lsumS (xbz tys) ((58,2),dL).snd).fst (ZLT.lsumS (xbz tys) ((58,2),dL).snd).fst::cnT::cnT::cnT::cnT::cnT::cnT::cnT::cnT::cnT::cnT::[])) (by kernel_rfl) ⟨rfl,h0,h1,h1,h2,h1,h1,h2,h3,h4,h5,h6,h7,h1,h2,h1,h1,h2,h8,rfl,h9,h2,h8,h2,h8,h9,h2,h8,h2,h8,trivial⟩
theorem Rf_ff (op sub pl fi ct:Int) (la:Bool) (ln:Nat) (lv:List AV) (da:Bool) (dn:Nat) (dv:List AV) (h0:(ln.beq 0)=false) (h1:(AV.plainL lv)=true) (h2:(AV.plainL dv)=true) (h3:(isU IntKind.u32 lv)=true) (h4:(lv.length.beq ln)=true) (h5:(ln.beq ln)=true) (h6:(Nat.ble 1 ln)=true) (h7:(ln.ble 900)=true) (h8:(AV.plainL (kept (xbs IntKind.u64 (xbt lv))))=true) (h9:(dn.beq 0)=false) (h10:(isD dv)=true) (h11:(dv.length.beq dn)=true) (h12:(dn.beq dn)=true) (h13:(Nat.ble 1 dn)=true) (h14:(dn.ble 900)=true) (h15:(AV.plainL (kept (encS (List.map Prod.snd (xoi dv)))))=true) :
 ∃ h',xbl xpz 60 (Tgt.fn 58) [.agg [.int .u8 op, .int .u8 sub, .int .u8 pl, .int .u32 fi, .int .u8 ct, .fsl la ln lv, .fsl da dn dv]] H0=some (AV.agg [.int .u8 (AV.int IntKind.u8 (AV.int IntKind.u8 (AV.int IntKind.u8 op).intOf).intOf).intOf, .int .u8 (AV.int IntKind.u8 (AV.int IntKind.u8 (AV.int IntKind.u8 sub).intOf).intOf).intOf, .int .u8 (AV.int IntKind.u8 (AV.int IntKind.u8 (AV.int IntKind.u8 pl).intOf).intOf).intOf, .int .u64 (AV.int IntKind.u64 (AV.int IntKind.u64 (xaf IntKind.u64 (AV.int IntKind.u32 fi).intOf)).intOf).intOf, .int .u8 (AV.int IntKind.u8 (AV.int IntKind.u8 (AV.int IntKind.u8 ct).intOf).intOf).intOf, .slice (some (3,0)) ln none, .slice (some (4,0)) dn none],h')∧[3,4].map h'.get=[.cells true 22 ln (kept (xbs IntKind.u64 (xbt lv))), .cells true 9 dn (kept (encS (List.map Prod.snd (xoi dv))))] :=
 xaa (q:=qNs [33,1,13,0,3,0,0,7,0,3,0,0,4,0,0,0,3,0,0,0,0,6,0,3,0,0,6,0,6,1,12,0,6,0,4,0,6,0,0,0,0,3,0,0,0,5,0,7,0,3,0,35]) (c:=(Cnd.code (ZLT.lsumS (xbz tys) ((58,0),aL).snd).fst (ZLT.lsumS (xbz tys) ((58,0),aL).snd).fst::cnF::cnT::cnT::cnT::cnT::cnT::cnT::cnT::cnT::cnT::cnT::cnT::cnT::cnT::cnT::cnT::cnT::cnT::Cnd.code (ZLT.lsumS (xbz tys) ((58,2),dL).snd).fst (ZLT.lsumS (xbz tys) ((58,2),dL).snd).fst::cnF::cnT::cnT::cnT::cnT::cnT::cnT::cnT::cnT::cnT::cnT::cnT::cnT::cnT::[])) (by kernel_rfl) ⟨rfl,h0,h1,h1,h2,h1,h1,h2,h3,h4,h5,h6,h7,h1,h2,h1,h1,h2,h8,rfl,h9,h2,h8,h2,h8,h10,h11,h12,h13,h14,h8,h2,h8,h15,trivial⟩
abbrev dE (op sub pl fi ct:Int) (la:Bool) (ln:Nat) (lv:List AV) (da:Bool) (dn:Nat) (dv:List AV) (b:List UInt8):Prop:=∃ h',xbl xpz 60 (Tgt.fn 59) [.agg [.int .u8 op, .int .u8 sub, .int .u8 pl, .int .u64 fi, .int .u8 ct, .fsl la ln lv, .fsl da dn dv]] H0=some (AV.str b,h')∧[].map h'.get=[]
section
variable {op sub pl fi ct:Int} {la:Bool} {ln:Nat} {lv:List AV} {da:Bool} {dn:Nat} {dv:List AV}
theorem Do_t (h0:(xae op (Int.ofNat 0))=true) :
 dE op sub pl fi ct la ln lv da dn dv ([]) :=
 xaa (q:=qNs [8,0,0,0,0,6]) (c:=(cnT::cnT::cnT::cnT::[])) (by kernel_rfl) ⟨h0,h0,h0,h0,trivial⟩
theorem Do_ft (h0:(xae op (Int.ofNat 0))=false) (h1:(xak (Int.ofNat 7) op)=true) :
 dE op sub pl fi ct la ln lv da dn dv ([]) :=
 xaa (q:=qNs [8,1,1,5,1,1,0,0,0,3]) (c:=(cnF::cnF::cnF::cnF::cnT::cnT::cnT::[])) (by kernel_rfl) ⟨h0,h0,h0,h0,h1,h1,h1,trivial⟩
theorem Do_fft (h0:(xae op (Int.ofNat 0))=false) (h1:(xak (Int.ofNat 7) op)=false) (h2:(xak (Int.ofNat 16) (Int.ofNat ln))=true) :
 dE op sub pl fi ct la ln lv da dn dv ([]) :=
 xaa (q:=qNs [8,1,1,5,1,1,1,1,1,0]) (c:=(cnF::cnF::cnF::cnF::cnF::cnF::cnF::cnT::[])) (by kernel_rfl) ⟨h0,h0,h0,h0,h1,h1,h1,h2,trivial⟩
theorem Do_ffftt (h0:(xae op (Int.ofNat 0))=false) (h1:(xak (Int.ofNat 7) op)=false) (h2:(xak (Int.ofNat 16) (Int.ofNat ln))=false) (h3:(xae op (Int.ofNat 1))=true) (h4:(xak ct (Int.ofNat 1))=true) :
 dE op sub pl fi ct la ln lv da dn dv ([]) :=
 xaa (q:=qNs [8,1,1,5,1,1,1,1,1,1,5,0,5,0,0,0,0,18]) (c:=(cnF::cnF::cnF::cnF::cnF::cnF::cnF::cnF::cnT::cnT::cnT::cnT::cnT::[])) (by kernel_rfl) ⟨h0,h0,h0,h0,h1,h1,h1,h2,h3,h4,h4,h4,h4,trivial⟩
theorem Do_fffft (h0:(xae op (Int.ofNat 0))=false) (h1:(xak (Int.ofNat 7) op)=false) (h2:(xak (Int.ofNat 16) (Int.ofNat ln))=false) (h3:(xae op (Int.ofNat 1))=false) (h4:(!xae ct (Int.ofNat 0))=true) :
 dE op sub pl fi ct la ln lv da dn dv ([]) :=
 xaa (q:=qNs [8,1,1,5,1,1,1,1,1,1,5,1,5,0,0,0,0,3]) (c:=(cnF::cnF::cnF::cnF::cnF::cnF::cnF::cnF::cnF::cnT::cnT::cnT::cnT::[])) (by kernel_rfl) ⟨h0,h0,h0,h0,h1,h1,h1,h2,h3,h4,h4,h4,h4,trivial⟩
theorem Do_ffftft (h0:(xae op (Int.ofNat 0))=false) (h1:(xak (Int.ofNat 7) op)=false) (h2:(xak (Int.ofNat 16) (Int.ofNat ln))=false) (h3:(xae op (Int.ofNat 1))=true) (h4:(xak ct (Int.ofNat 1))=false) (h5:(xak (Int.ofNat 16) ct)=true) :
 dE op sub pl fi ct la ln lv da dn dv ([]) :=
 xaa (q:=qNs [8,1,1,5,1,1,1,1,1,1,5,0,5,1,1,5,1,1,0,0,0,0,0,0,0,11]) (c:=(cnF::cnF::cnF::cnF::cnF::cnF::cnF::cnF::cnT::cnF::cnF::cnF::cnF::cnT::cnT::cnT::cnT::cnT::cnT::cnT::[])) (by kernel_rfl) ⟨h0,h0,h0,h0,h1,h1,h1,h2,h3,h4,h4,h4,h4,h5,h5,h5,h5,h5,h5,h5,trivial⟩
theorem Do_ffffft (h0:(xae op (Int.ofNat 0))=false) (h1:(xak (Int.ofNat 7) op)=false) (h2:(xak (Int.ofNat 16) (Int.ofNat ln))=false) (h3:(xae op (Int.ofNat 1))=false) (h4:(!xae ct (Int.ofNat 0))=false) (h5:(!xae fi (Int.ofNat 0))=true) :
 dE op sub pl fi ct la ln lv da dn dv ([]) :=
 xaa (q:=qNs [8,1,1,5,1,1,1,1,1,1,5,1,5,1,1,5,1,1,0]) (c:=(cnF::cnF::cnF::cnF::cnF::cnF::cnF::cnF::cnF::cnF::cnF::cnF::cnF::cnT::[])) (by kernel_rfl) ⟨h0,h0,h0,h0,h1,h1,h1,h2,h3,h4,h4,h4,h4,h5,trivial⟩
theorem Do_ffftfft (h0:(xae op (Int.ofNat 0))=false) (h1:(xak (Int.ofNat 7) op)=false) (h2:(xak (Int.ofNat 16) (Int.ofNat ln))=false) (h3:(xae op (Int.ofNat 1))=true) (h4:(xak ct (Int.ofNat 1))=false) (h5:(xak (Int.ofNat 16) ct)=false) (h6:(xak (Int.ofNat 0) (xaf IntKind.i64 ((Int.ofNat ln).add (Int.ofNat dn))))=true) :
 dE op sub pl fi ct la ln lv da dn dv ([]) :=
 xaa (q:=qNs [8,1,1,5,1,1,1,1,1,1,5,0,5,1,1,5,1,1,1,1,1,5,1,1,1,1,0,0,0,0,7]) (c:=(cnF::cnF::cnF::cnF::cnF::cnF::cnF::cnF::cnT::cnF::cnF::cnF::cnF::cnF::cnF::cnF::cnF::cnF::cnF::cnF::cnT::cnT::cnT::cnT::[])) (by kernel_rfl) ⟨h0,h0,h0,h0,h1,h1,h1,h2,h3,h4,h4,h4,h4,h5,h5,h5,h5,h5,h5,h5,h6,h6,h6,h6,trivial⟩
theorem Do_ffftffft (h0:(xae op (Int.ofNat 0))=false) (h1:(xak (Int.ofNat 7) op)=false) (h2:(xak (Int.ofNat 16) (Int.ofNat ln))=false) (h3:(xae op (Int.ofNat 1))=true) (h4:(xak ct (Int.ofNat 1))=false) (h5:(xak (Int.ofNat 16) ct)=false) (h6:(xak (Int.ofNat 0) (xaf IntKind.i64 ((Int.ofNat ln).add (Int.ofNat dn))))=false) (h7:(!xae sub (Int.ofNat 0))=true) :
 dE op sub pl fi ct la ln lv da dn dv ([]) :=
 xaa (q:=qNs [8,1,1,5,1,1,1,1,1,1,5,0,5,1,1,5,1,1,1,1,1,5,1,1,1,1,1,1,5,1,1,0,0,0,0,3]) (c:=(cnF::cnF::cnF::cnF::cnF::cnF::cnF::cnF::cnT::cnF::cnF::cnF::cnF::cnF::cnF::cnF::cnF::cnF::cnF::cnF::cnF::cnF::cnF::cnF::cnT::cnT::cnT::cnT::[])) (by kernel_rfl) ⟨h0,h0,h0,h0,h1,h1,h1,h2,h3,h4,h4,h4,h4,h5,h5,h5,h5,h5,h5,h5,h6,h6,h6,h6,h7,h7,h7,h7,trivial⟩
theorem Do_fffffftt (h0:(xae op (Int.ofNat 0))=false) (h1:(xak (Int.ofNat 7) op)=false) (h2:(xak (Int.ofNat 16) (Int.ofNat ln))=false) (h3:(xae op (Int.ofNat 1))=false) (h4:(!xae ct (Int.ofNat 0))=false) (h5:(!xae fi (Int.ofNat 0))=false) (h6:(xae op (Int.ofNat 2))=true) (h7:(xae (Int.ofNat ln) (Int.ofNat 0))=true) :
 dE op sub pl fi ct la ln lv da dn dv ([]) :=
 xaa (q:=qNs [8,1,1,5,1,1,1,1,1,1,5,1,5,1,1,5,1,1,1,5,0,0,0,0,3,0,0,0,0,19]) (c:=(cnF::cnF::cnF::cnF::cnF::cnF::cnF::cnF::cnF::cnF::cnF::cnF::cnF::cnF::cnT::cnT::cnT::cnT::cnT::cnT::cnT::cnT::[])) (by kernel_rfl) ⟨h0,h0,h0,h0,h1,h1,h1,h2,h3,h4,h4,h4,h4,h5,h6,h6,h6,h6,h7,h7,h7,h7,trivial⟩
theorem Do_ffftfffft (h0:(xae op (Int.ofNat 0))=false) (h1:(xak (Int.ofNat 7) op)=false) (h2:(xak (Int.ofNat 16) (Int.ofNat ln))=false) (h3:(xae op (Int.ofNat 1))=true) (h4:(xak ct (Int.ofNat 1))=false) (h5:(xak (Int.ofNat 16) ct)=false) (h6:(xak (Int.ofNat 0) (xaf IntKind.i64 ((Int.ofNat ln).add (Int.ofNat dn))))=false) (h7:(!xae sub (Int.ofNat 0))=false) (h8:(!xae pl (Int.ofNat 0))=true) :
 dE op sub pl fi ct la ln lv da dn dv ([]) :=
 xaa (q:=qNs [8,1,1,5,1,1,1,1,1,1,5,0,5,1,1,5,1,1,1,1,1,5,1,1,1,1,1,1,5,1,1,1,1,5,1,1,0]) (c:=(cnF::cnF::cnF::cnF::cnF::cnF::cnF::cnF::cnT::cnF::cnF::cnF::cnF::cnF::cnF::cnF::cnF::cnF::cnF::cnF::cnF::cnF::cnF::cnF::cnF::cnF::cnF::cnF::cnT::[])) (by kernel_rfl) ⟨h0,h0,h0,h0,h1,h1,h1,h2,h3,h4,h4,h4,h4,h5,h5,h5,h5,h5,h5,h5,h6,h6,h6,h6,h7,h7,h7,h7,h8,trivial⟩
theorem Do_ffftfffff (h0:(xae op (Int.ofNat 0))=false) (h1:(xak (Int.ofNat 7) op)=false) (h2:(xak (Int.ofNat 16) (Int.ofNat ln))=false) (h3:(xae op (Int.ofNat 1))=true) (h4:(xak ct (Int.ofNat 1))=false) (h5:(xak (Int.ofNat 16) ct)=false) (h6:(xak (Int.ofNat 0) (xaf IntKind.i64 ((Int.ofNat ln).add (Int.ofNat dn))))=false) (h7:(!xae sub (Int.ofNat 0))=false) (h8:(!xae pl (Int.ofNat 0))=false) (h9:(xbr (Int.ofNat 0) fi)=true) (h10:(xak fi (Int.ofNat 18446744073709551616))=true) (h11:((bytesOf (xan (kept (ofBytes (xdf 4 fi.toNat))) 0 4)).isSome)=true) (h12:((1+((bytesOf (xan (kept (ofBytes (xdf 4 fi.toNat))) 0 4)).getD []).length).ble 9223372036854775807)=true) (h13:((([UInt8.ofNat 1]++(bytesOf (xan (kept (ofBytes (xdf 4 fi.toNat))) 0 4)).getD []).length+1).ble 9223372036854775807)=true) :
 dE op sub pl fi ct la ln lv da dn dv ((([UInt8.ofNat 1]++(bytesOf (xan (kept (ofBytes (xdf 4 fi.toNat))) 0 4)).getD [])++[UInt8.ofNat ct.toNat])) :=
 xaa (q:=qNs [8,1,1,5,1,1,1,1,1,1,5,0,5,1,1,5,1,1,1,1,1,5,1,1,1,1,1,1,5,1,1,1,1,5,1,1,1,14,0,0,3,0,0,0,6,0,7,0,5,0,6,0,6,0,4,0,4,0,3,0,0,0,0,0,0,0]) (c:=(cnF::cnF::cnF::cnF::cnF::cnF::cnF::cnF::cnT::cnF::cnF::cnF::cnF::cnF::cnF::cnF::cnF::cnF::cnF::cnF::cnF::cnF::cnF::cnF::cnF::cnF::cnF::cnF::cnF::cnT::cnT::cnT::cnT::cnT::Cnd.same (AV.int IntKind.u64 fi) (AV.int IntKind.u64 fi)::Cnd.same (AV.int IntKind.u8 ct) (AV.int IntKind.u8 ct)::Cnd.same (AV.int IntKind.u8 ct) (AV.int IntKind.u8 ct)::Cnd.same (AV.agg [AV.int IntKind.u8 ct]) (AV.agg [AV.int IntKind.u8 ct])::Cnd.same (AV.agg [AV.int IntKind.u8 ct]) (AV.agg [AV.int IntKind.u8 ct])::Cnd.same (AV.str [UInt8.ofNat ct.toNat]) (AV.str [UInt8.ofNat ct.toNat])::Cnd.same (AV.str [UInt8.ofNat ct.toNat]) (AV.str [UInt8.ofNat ct.toNat])::cnT::Cnd.same (AV.str ((bytesOf (xan (kept (ofBytes (xdf 4 fi.toNat))) 0 4)).getD [])) (AV.str ((bytesOf (xan (kept (ofBytes (xdf 4 fi.toNat))) 0 4)).getD []))::cnT::Cnd.same (AV.str ([UInt8.ofNat 1]++(bytesOf (xan (kept (ofBytes (xdf 4 fi.toNat))) 0 4)).getD [])) (AV.str ([UInt8.ofNat 1]++(bytesOf (xan (kept (ofBytes (xdf 4 fi.toNat))) 0 4)).getD []))::cnT::Cnd.same (AV.str (([UInt8.ofNat 1]++(bytesOf (xan (kept (ofBytes (xdf 4 fi.toNat))) 0 4)).getD [])++[UInt8.ofNat ct.toNat])) (AV.str (([UInt8.ofNat 1]++(bytesOf (xan (kept (ofBytes (xdf 4 fi.toNat))) 0 4)).getD [])++[UInt8.ofNat ct.toNat]))::Cnd.same (AV.str (([UInt8.ofNat 1]++(bytesOf (xan (kept (ofBytes (xdf 4 fi.toNat))) 0 4)).getD [])++[UInt8.ofNat ct.toNat])) (AV.str (([UInt8.ofNat 1]++(bytesOf (xan (kept (ofBytes (xdf 4 fi.toNat))) 0 4)).getD [])++[UInt8.ofNat ct.toNat]))::[])) (by kernel_rfl) ⟨h0,h0,h0,h0,h1,h1,h1,h2,h3,h4,h4,h4,h4,h5,h5,h5,h5,h5,h5,h5,h6,h6,h6,h6,h7,h7,h7,h7,h8,h9,h10,h11,h12,h13,rfl,rfl,rfl,rfl,rfl,rfl,rfl,h11,rfl,h12,rfl,h13,rfl,rfl,trivial⟩
theorem Do_fffffftft (h0:(xae op (Int.ofNat 0))=false) (h1:(xak (Int.ofNat 7) op)=false) (h2:(xak (Int.ofNat 16) (Int.ofNat ln))=false) (h3:(xae op (Int.ofNat 1))=false) (h4:(!xae ct (Int.ofNat 0))=false) (h5:(!xae fi (Int.ofNat 0))=false) (h6:(xae op (Int.ofNat 2))=true) (h7:(xae (Int.ofNat ln) (Int.ofNat 0))=false) (h8:(!xae sub (Int.ofNat 0))=true) :
 dE op sub pl fi ct la ln lv da dn dv ([]) :=
 xaa (q:=qNs [8,1,1,5,1,1,1,1,1,1,5,1,5,1,1,5,1,1,1,5,0,0,0,0,3,1,1,5,1,1,0,0,0,0,15]) (c:=(cnF::cnF::cnF::cnF::cnF::cnF::cnF::cnF::cnF::cnF::cnF::cnF::cnF::cnF::cnT::cnT::cnT::cnT::cnF::cnF::cnF::cnF::cnT::cnT::cnT::cnT::[])) (by kernel_rfl) ⟨h0,h0,h0,h0,h1,h1,h1,h2,h3,h4,h4,h4,h4,h5,h6,h6,h6,h6,h7,h7,h7,h7,h8,h8,h8,h8,trivial⟩
theorem Do_ffffffftt (h0:(xae op (Int.ofNat 0))=false) (h1:(xak (Int.ofNat 7) op)=false) (h2:(xak (Int.ofNat 16) (Int.ofNat ln))=false) (h3:(xae op (Int.ofNat 1))=false) (h4:(!xae ct (Int.ofNat 0))=false) (h5:(!xae fi (Int.ofNat 0))=false) (h6:(xae op (Int.ofNat 2))=false) (h7:(xae op (Int.ofNat 3))=true) (h8:(xae (Int.ofNat ln) (Int.ofNat 0))=true) :
 dE op sub pl fi ct la ln lv da dn dv ([]) :=
 xaa (q:=qNs [8,1,1,5,1,1,1,1,1,1,5,1,5,1,1,5,1,1,1,5,1,1,5,1,1,0,0,0,0,0,19]) (c:=(cnF::cnF::cnF::cnF::cnF::cnF::cnF::cnF::cnF::cnF::cnF::cnF::cnF::cnF::cnF::cnF::cnF::cnF::cnT::cnT::cnT::cnT::cnT::[])) (by kernel_rfl) ⟨h0,h0,h0,h0,h1,h1,h1,h2,h3,h4,h4,h4,h4,h5,h6,h6,h6,h6,h7,h8,h8,h8,h8,trivial⟩
theorem Do_fffffffft (h0:(xae op (Int.ofNat 0))=false) (h1:(xak (Int.ofNat 7) op)=false) (h2:(xak (Int.ofNat 16) (Int.ofNat ln))=false) (h3:(xae op (Int.ofNat 1))=false) (h4:(!xae ct (Int.ofNat 0))=false) (h5:(!xae fi (Int.ofNat 0))=false) (h6:(xae op (Int.ofNat 2))=false) (h7:(xae op (Int.ofNat 3))=false) (h8:(xak (Int.ofNat 0) (xaf IntKind.i64 ((Int.ofNat ln).add (Int.ofNat dn))))=true) :
 dE op sub pl fi ct la ln lv da dn dv ([]) :=
 xaa (q:=qNs [8,1,1,5,1,1,1,1,1,1,5,1,5,1,1,5,1,1,1,5,1,1,5,1,1,1,5,0]) (c:=(cnF::cnF::cnF::cnF::cnF::cnF::cnF::cnF::cnF::cnF::cnF::cnF::cnF::cnF::cnF::cnF::cnF::cnF::cnF::cnT::[])) (by kernel_rfl) ⟨h0,h0,h0,h0,h1,h1,h1,h2,h3,h4,h4,h4,h4,h5,h6,h6,h6,h6,h7,h8,trivial⟩
theorem xtf (h0:(xae op (Int.ofNat 0))=false) (h1:(xak (Int.ofNat 7) op)=false) (h2:(xak (Int.ofNat 16) (Int.ofNat ln))=false) (h3:(xae op (Int.ofNat 1))=false) (h4:(!xae ct (Int.ofNat 0))=false) (h5:(!xae fi (Int.ofNat 0))=false) (h6:(xae op (Int.ofNat 2))=true) (h7:(xae (Int.ofNat ln) (Int.ofNat 0))=false) (h8:(!xae sub (Int.ofNat 0))=false) (h9:(!xae pl (Int.ofNat 0))=true) :
 dE op sub pl fi ct la ln lv da dn dv ([]) :=
 xaa (q:=qNs [8,1,1,5,1,1,1,1,1,1,5,1,5,1,1,5,1,1,1,5,0,0,0,0,3,1,1,5,1,1,1,1,5,1,1,0,0,0,0,0,0,9]) (c:=(cnF::cnF::cnF::cnF::cnF::cnF::cnF::cnF::cnF::cnF::cnF::cnF::cnF::cnF::cnT::cnT::cnT::cnT::cnF::cnF::cnF::cnF::cnF::cnF::cnF::cnF::cnT::cnT::cnT::cnT::cnT::cnT::[])) (by kernel_rfl) ⟨h0,h0,h0,h0,h1,h1,h1,h2,h3,h4,h4,h4,h4,h5,h6,h6,h6,h6,h7,h7,h7,h7,h8,h8,h8,h8,h9,h9,h9,h9,h9,h9,trivial⟩
theorem xse (h0:(xae op (Int.ofNat 0))=false) (h1:(xak (Int.ofNat 7) op)=false) (h2:(xak (Int.ofNat 16) (Int.ofNat ln))=false) (h3:(xae op (Int.ofNat 1))=false) (h4:(!xae ct (Int.ofNat 0))=false) (h5:(!xae fi (Int.ofNat 0))=false) (h6:(xae op (Int.ofNat 2))=false) (h7:(xae op (Int.ofNat 3))=true) (h8:(xae (Int.ofNat ln) (Int.ofNat 0))=false) (h9:(!xae sub (Int.ofNat 0))=true) :
 dE op sub pl fi ct la ln lv da dn dv ([]) :=
 xaa (q:=qNs [8,1,1,5,1,1,1,1,1,1,5,1,5,1,1,5,1,1,1,5,1,1,5,1,1,0,1,1,5,1,1,0,0,0,0,15]) (c:=(cnF::cnF::cnF::cnF::cnF::cnF::cnF::cnF::cnF::cnF::cnF::cnF::cnF::cnF::cnF::cnF::cnF::cnF::cnT::cnF::cnF::cnF::cnF::cnT::cnT::cnT::cnT::[])) (by kernel_rfl) ⟨h0,h0,h0,h0,h1,h1,h1,h2,h3,h4,h4,h4,h4,h5,h6,h6,h6,h6,h7,h8,h8,h8,h8,h9,h9,h9,h9,trivial⟩
theorem xqg (h0:(xae op (Int.ofNat 0))=false) (h1:(xak (Int.ofNat 7) op)=false) (h2:(xak (Int.ofNat 16) (Int.ofNat ln))=false) (h3:(xae op (Int.ofNat 1))=false) (h4:(!xae ct (Int.ofNat 0))=false) (h5:(!xae fi (Int.ofNat 0))=false) (h6:(xae op (Int.ofNat 2))=true) (h7:(xae (Int.ofNat ln) (Int.ofNat 0))=false) (h8:(!xae sub (Int.ofNat 0))=false) (h9:(!xae pl (Int.ofNat 0))=false) (h10:(!xae (Int.ofNat dn) (Int.ofNat ln))=true) :
 dE op sub pl fi ct la ln lv da dn dv ([]) :=
 xaa (q:=qNs [8,1,1,5,1,1,1,1,1,1,5,1,5,1,1,5,1,1,1,5,0,0,0,0,3,1,1,5,1,1,1,1,5,1,1,1,1,5,1,1,0,0,5,0,0,0,1,0,1,0,0,0,0,0,0,3]) (c:=(cnF::cnF::cnF::cnF::cnF::cnF::cnF::cnF::cnF::cnF::cnF::cnF::cnF::cnF::cnT::cnT::cnT::cnT::cnF::cnF::cnF::cnF::cnF::cnF::cnF::cnF::cnF::cnF::cnF::cnF::cnT::cnT::cnT::cnT::cnT::cnF::cnT::cnF::cnT::cnT::cnT::cnT::cnT::cnT::[])) (by kernel_rfl) ⟨h0,h0,h0,h0,h1,h1,h1,h2,h3,h4,h4,h4,h4,h5,h6,h6,h6,h6,h7,h7,h7,h7,h8,h8,h8,h8,h9,h9,h9,h9,h6,h6,h6,h6,h6,h9,h6,h9,h10,h10,h10,h10,h10,h10,trivial⟩
theorem xqq (h0:(xae op (Int.ofNat 0))=false) (h1:(xak (Int.ofNat 7) op)=false) (h2:(xak (Int.ofNat 16) (Int.ofNat ln))=false) (h3:(xae op (Int.ofNat 1))=false) (h4:(!xae ct (Int.ofNat 0))=false) (h5:(!xae fi (Int.ofNat 0))=false) (h6:(xae op (Int.ofNat 2))=false) (h7:(xae op (Int.ofNat 3))=true) (h8:(xae (Int.ofNat ln) (Int.ofNat 0))=false) (h9:(!xae sub (Int.ofNat 0))=false) (h10:(!xae pl (Int.ofNat 0))=true) :
 dE op sub pl fi ct la ln lv da dn dv ([]) :=
 xaa (q:=qNs [8,1,1,5,1,1,1,1,1,1,5,1,5,1,1,5,1,1,1,5,1,1,5,1,1,0,1,1,5,1,1,1,1,5,1,1,0,0,0,0,0,0,9]) (c:=(cnF::cnF::cnF::cnF::cnF::cnF::cnF::cnF::cnF::cnF::cnF::cnF::cnF::cnF::cnF::cnF::cnF::cnF::cnT::cnF::cnF::cnF::cnF::cnF::cnF::cnF::cnF::cnT::cnT::cnT::cnT::cnT::cnT::[])) (by kernel_rfl) ⟨h0,h0,h0,h0,h1,h1,h1,h2,h3,h4,h4,h4,h4,h5,h6,h6,h6,h6,h7,h8,h8,h8,h8,h9,h9,h9,h9,h10,h10,h10,h10,h10,h10,trivial⟩
theorem xqc (h0:(xae op (Int.ofNat 0))=false) (h1:(xak (Int.ofNat 7) op)=false) (h2:(xak (Int.ofNat 16) (Int.ofNat ln))=false) (h3:(xae op (Int.ofNat 1))=false) (h4:(!xae ct (Int.ofNat 0))=false) (h5:(!xae fi (Int.ofNat 0))=false) (h6:(xae op (Int.ofNat 2))=false) (h7:(xae op (Int.ofNat 3))=false) (h8:(xak (Int.ofNat 0) (xaf IntKind.i64 ((Int.ofNat ln).add (Int.ofNat dn))))=false) (h9:(xae op (Int.ofNat 4))=true) (h10:(!xae sub (Int.ofNat 0))=true) :
 dE op sub pl fi ct la ln lv da dn dv ([]) :=
 xaa (q:=qNs [8,1,1,5,1,1,1,1,1,1,5,1,5,1,1,5,1,1,1,5,1,1,5,1,1,1,5,1,5,0,5,0,0,0,0,3]) (c:=(cnF::cnF::cnF::cnF::cnF::cnF::cnF::cnF::cnF::cnF::cnF::cnF::cnF::cnF::cnF::cnF::cnF::cnF::cnF::cnF::cnT::cnT::cnT::cnT::cnT::[])) (by kernel_rfl) ⟨h0,h0,h0,h0,h1,h1,h1,h2,h3,h4,h4,h4,h4,h5,h6,h6,h6,h6,h7,h8,h9,h10,h10,h10,h10,trivial⟩
theorem xqe (h0:(xae op (Int.ofNat 0))=false) (h1:(xak (Int.ofNat 7) op)=false) (h2:(xak (Int.ofNat 16) (Int.ofNat ln))=false) (h3:(xae op (Int.ofNat 1))=false) (h4:(!xae ct (Int.ofNat 0))=false) (h5:(!xae fi (Int.ofNat 0))=false) (h6:(xae op (Int.ofNat 2))=false) (h7:(xae op (Int.ofNat 3))=false) (h8:(xak (Int.ofNat 0) (xaf IntKind.i64 ((Int.ofNat ln).add (Int.ofNat dn))))=false) (h9:(xae op (Int.ofNat 4))=false) (h10:(xak (Int.ofNat 2) sub)=true) :
 dE op sub pl fi ct la ln lv da dn dv ([]) :=
 xaa (q:=qNs [8,1,1,5,1,1,1,1,1,1,5,1,5,1,1,5,1,1,1,5,1,1,5,1,1,1,5,1,5,1,5,0,0,0,0,0,0,3]) (c:=(cnF::cnF::cnF::cnF::cnF::cnF::cnF::cnF::cnF::cnF::cnF::cnF::cnF::cnF::cnF::cnF::cnF::cnF::cnF::cnF::cnF::cnT::cnT::cnT::cnT::cnT::cnT::[])) (by kernel_rfl) ⟨h0,h0,h0,h0,h1,h1,h1,h2,h3,h4,h4,h4,h4,h5,h6,h6,h6,h6,h7,h8,h9,h10,h10,h10,h10,h10,h10,trivial⟩
theorem xpb (h0:(xae op (Int.ofNat 0))=false) (h1:(xak (Int.ofNat 7) op)=false) (h2:(xak (Int.ofNat 16) (Int.ofNat ln))=false) (h3:(xae op (Int.ofNat 1))=false) (h4:(!xae ct (Int.ofNat 0))=false) (h5:(!xae fi (Int.ofNat 0))=false) (h6:(xae op (Int.ofNat 2))=false) (h7:(xae op (Int.ofNat 3))=true) (h8:(xae (Int.ofNat ln) (Int.ofNat 0))=false) (h9:(!xae sub (Int.ofNat 0))=false) (h10:(!xae pl (Int.ofNat 0))=false) (h11:(!xae (Int.ofNat dn) (Int.ofNat 0))=true) :
 dE op sub pl fi ct la ln lv da dn dv ([]) :=
 xaa (q:=qNs [8,1,1,5,1,1,1,1,1,1,5,1,5,1,1,5,1,1,1,5,1,1,5,1,1,0,1,1,5,1,1,1,1,5,1,1,1,1,5,1,1,1,1,1,1,1,1,1,1,9,0,0,5,0,0,3,0,3,0]) (c:=(cnF::cnF::cnF::cnF::cnF::cnF::cnF::cnF::cnF::cnF::cnF::cnF::cnF::cnF::cnF::cnF::cnF::cnF::cnT::cnF::cnF::cnF::cnF::cnF::cnF::cnF::cnF::cnF::cnF::cnF::cnF::cnF::cnF::cnF::cnF::cnF::cnF::cnF::cnF::cnT::cnT::cnT::cnT::cnT::cnT::[])) (by kernel_rfl) ⟨h0,h0,h0,h0,h1,h1,h1,h2,h3,h4,h4,h4,h4,h5,h6,h6,h6,h6,h7,h8,h8,h8,h8,h9,h9,h9,h9,h10,h10,h10,h10,h6,h6,h6,h6,h6,h10,h6,h10,h7,h7,h7,h7,h7,h11,trivial⟩
theorem xnp (h0:(xae op (Int.ofNat 0))=false) (h1:(xak (Int.ofNat 7) op)=false) (h2:(xak (Int.ofNat 16) (Int.ofNat ln))=false) (h3:(xae op (Int.ofNat 1))=false) (h4:(!xae ct (Int.ofNat 0))=false) (h5:(!xae fi (Int.ofNat 0))=false) (h6:(xae op (Int.ofNat 2))=false) (h7:(xae op (Int.ofNat 3))=false) (h8:(xak (Int.ofNat 0) (xaf IntKind.i64 ((Int.ofNat ln).add (Int.ofNat dn))))=false) (h9:(xae op (Int.ofNat 4))=true) (h10:(!xae sub (Int.ofNat 0))=false) (h11:(!xae pl (Int.ofNat 0))=true) :
 dE op sub pl fi ct la ln lv da dn dv ([]) :=
 xaa (q:=qNs [8,1,1,5,1,1,1,1,1,1,5,1,5,1,1,5,1,1,1,5,1,1,5,1,1,1,5,1,5,0,5,1,1,5,1,1,0]) (c:=(cnF::cnF::cnF::cnF::cnF::cnF::cnF::cnF::cnF::cnF::cnF::cnF::cnF::cnF::cnF::cnF::cnF::cnF::cnF::cnF::cnT::cnF::cnF::cnF::cnF::cnT::[])) (by kernel_rfl) ⟨h0,h0,h0,h0,h1,h1,h1,h2,h3,h4,h4,h4,h4,h5,h6,h6,h6,h6,h7,h8,h9,h10,h10,h10,h10,h11,trivial⟩
theorem xps (h0:(xae op (Int.ofNat 0))=false) (h1:(xak (Int.ofNat 7) op)=false) (h2:(xak (Int.ofNat 16) (Int.ofNat ln))=false) (h3:(xae op (Int.ofNat 1))=false) (h4:(!xae ct (Int.ofNat 0))=false) (h5:(!xae fi (Int.ofNat 0))=false) (h6:(xae op (Int.ofNat 2))=false) (h7:(xae op (Int.ofNat 3))=false) (h8:(xak (Int.ofNat 0) (xaf IntKind.i64 ((Int.ofNat ln).add (Int.ofNat dn))))=false) (h9:(xae op (Int.ofNat 4))=true) (h10:(!xae sub (Int.ofNat 0))=false) (h11:(!xae pl (Int.ofNat 0))=false) :
 dE op sub pl fi ct la ln lv da dn dv ([UInt8.ofNat 4]) :=
 xaa (q:=qNs [8,1,1,5,1,1,1,1,1,1,5,1,5,1,1,5,1,1,1,5,1,1,5,1,1,1,5,1,5,0,5,1,1,5,1,1,1]) (c:=(cnF::cnF::cnF::cnF::cnF::cnF::cnF::cnF::cnF::cnF::cnF::cnF::cnF::cnF::cnF::cnF::cnF::cnF::cnF::cnF::cnT::cnF::cnF::cnF::cnF::cnF::[])) (by kernel_rfl) ⟨h0,h0,h0,h0,h1,h1,h1,h2,h3,h4,h4,h4,h4,h5,h6,h6,h6,h6,h7,h8,h9,h10,h10,h10,h10,h11,trivial⟩
theorem xpd (h0:(xae op (Int.ofNat 0))=false) (h1:(xak (Int.ofNat 7) op)=false) (h2:(xak (Int.ofNat 16) (Int.ofNat ln))=false) (h3:(xae op (Int.ofNat 1))=false) (h4:(!xae ct (Int.ofNat 0))=false) (h5:(!xae fi (Int.ofNat 0))=false) (h6:(xae op (Int.ofNat 2))=false) (h7:(xae op (Int.ofNat 3))=false) (h8:(xak (Int.ofNat 0) (xaf IntKind.i64 ((Int.ofNat ln).add (Int.ofNat dn))))=false) (h9:(xae op (Int.ofNat 4))=false) (h10:(xak (Int.ofNat 2) sub)=false) (h11:(!xae pl (Int.ofNat 0))=false) :
 dE op sub pl fi ct la ln lv da dn dv ([UInt8.ofNat op.toNat,UInt8.ofNat sub.toNat,UInt8.ofNat pl.toNat]) :=
 xaa (q:=qNs [8,1,1,5,1,1,1,1,1,1,5,1,5,1,1,5,1,1,1,5,1,1,5,1,1,1,5,1,5,1,5,1,1,5,1,1,1,1,1,1,1,1,1,1,21]) (c:=(cnF::cnF::cnF::cnF::cnF::cnF::cnF::cnF::cnF::cnF::cnF::cnF::cnF::cnF::cnF::cnF::cnF::cnF::cnF::cnF::cnF::cnF::cnF::cnF::cnF::cnF::cnF::cnF::cnF::cnF::cnF::cnF::cnF::[])) (by kernel_rfl) ⟨h0,h0,h0,h0,h1,h1,h1,h2,h3,h4,h4,h4,h4,h5,h6,h6,h6,h6,h7,h8,h9,h10,h10,h10,h10,h11,h11,h11,h11,h11,h10,h11,h10,trivial⟩
theorem xmx (h0:(xae op (Int.ofNat 0))=false) (h1:(xak (Int.ofNat 7) op)=false) (h2:(xak (Int.ofNat 16) (Int.ofNat ln))=false) (h3:(xae op (Int.ofNat 1))=false) (h4:(!xae ct (Int.ofNat 0))=false) (h5:(!xae fi (Int.ofNat 0))=false) (h6:(xae op (Int.ofNat 2))=true) (h7:(xae (Int.ofNat ln) (Int.ofNat 0))=false) (h8:(!xae sub (Int.ofNat 0))=false) (h9:(!xae pl (Int.ofNat 0))=false) (h10:(!xae (Int.ofNat dn) (Int.ofNat ln))=false) (h11:(xae op (Int.ofNat 3))=true) (h12:(!xae (Int.ofNat dn) (Int.ofNat 0))=true) :
 dE op sub pl fi ct la ln lv da dn dv ([]) :=
 xaa (q:=qNs [8,1,1,5,1,1,1,1,1,1,5,1,5,1,1,5,1,1,1,5,0,0,0,0,3,1,1,5,1,1,1,1,5,1,1,1,1,5,1,1,0,0,5,0,0,0,1,0,1,1,1,5,1,1,0,0,5,0,0,1,0,1,0]) (c:=(cnF::cnF::cnF::cnF::cnF::cnF::cnF::cnF::cnF::cnF::cnF::cnF::cnF::cnF::cnT::cnT::cnT::cnT::cnF::cnF::cnF::cnF::cnF::cnF::cnF::cnF::cnF::cnF::cnF::cnF::cnT::cnT::cnT::cnT::cnT::cnF::cnT::cnF::cnF::cnF::cnF::cnF::cnT::cnT::cnT::cnT::cnF::cnT::cnF::cnT::[])) (by kernel_rfl) ⟨h0,h0,h0,h0,h1,h1,h1,h2,h3,h4,h4,h4,h4,h5,h6,h6,h6,h6,h7,h7,h7,h7,h8,h8,h8,h8,h9,h9,h9,h9,h6,h6,h6,h6,h6,h9,h6,h9,h10,h10,h10,h10,h11,h11,h11,h11,h10,h11,h10,h12,trivial⟩
theorem xnc (h0:(xae op (Int.ofNat 0))=false) (h1:(xak (Int.ofNat 7) op)=false) (h2:(xak (Int.ofNat 16) (Int.ofNat ln))=false) (h3:(xae op (Int.ofNat 1))=false) (h4:(!xae ct (Int.ofNat 0))=false) (h5:(!xae fi (Int.ofNat 0))=false) (h6:(xae op (Int.ofNat 2))=true) (h7:(xae (Int.ofNat ln) (Int.ofNat 0))=false) (h8:(!xae sub (Int.ofNat 0))=false) (h9:(!xae pl (Int.ofNat 0))=false) (h10:(!xae (Int.ofNat dn) (Int.ofNat ln))=false) (h11:(xae op (Int.ofNat 3))=false) (h12:(xqx op dv)=true) (h13:(AV.plainL lv)=true) (h14:(AV.plainL dv)=true) (h15:(isU IntKind.u64 lv)=true) (h16:(lv.length.beq ln)=true) (h17:(ln.beq ln)=true) (h18:(ln.ble 16)=true) (h19:(isS dv)=true) (h20:(dv.length.beq dn)=true) (h21:(xjn op ln dn)=true) :
 dE op sub pl fi ct la ln lv da dn dv ([]) :=
 xaa (q:=qNs [8,1,1,5,1,1,1,1,1,1,5,1,5,1,1,5,1,1,1,5,0,0,0,0,3,1,1,5,1,1,1,1,5,1,1,1,1,5,1,1,0,0,5,0,0,0,1,0,1,1,1,5,1,1,1,1,1,1,1,1,1,16,0,7,0,3,0,0,3,0,3,0,0,0,0,0,3,0,3,0,0,0,0,0,4,0,3,0,0]) (c:=(cnF::cnF::cnF::cnF::cnF::cnF::cnF::cnF::cnF::cnF::cnF::cnF::cnF::cnF::cnT::cnT::cnT::cnT::cnF::cnF::cnF::cnF::cnF::cnF::cnF::cnF::cnF::cnF::cnF::cnF::cnT::cnT::cnT::cnT::cnT::cnF::cnT::cnF::cnF::cnF::cnF::cnF::cnF::cnF::cnF::cnF::cnF::cnF::cnF::Cnd.code (ZLT.lsumS (xbz tys) ((59,0),sL).snd).fst (ZLT.lsumS (xbz tys) ((59,0),sL).snd).fst::cnT::cnT::cnT::cnT::cnT::cnT::cnT::cnT::cnT::cnT::cnT::cnT::cnT::cnT::cnT::cnT::cnT::cnT::cnT::[])) (by kernel_rfl) ⟨h0,h0,h0,h0,h1,h1,h1,h2,h3,h4,h4,h4,h4,h5,h6,h6,h6,h6,h7,h7,h7,h7,h8,h8,h8,h8,h9,h9,h9,h9,h6,h6,h6,h6,h6,h9,h6,h9,h10,h10,h10,h10,h11,h11,h11,h11,h10,h11,h10,rfl,h12,h13,h13,h14,h13,h13,h14,h15,h16,h17,h18,h13,h19,h20,h21,h12,h13,h13,h14,trivial⟩
theorem xmw (h0:(xae op (Int.ofNat 0))=false) (h1:(xak (Int.ofNat 7) op)=false) (h2:(xak (Int.ofNat 16) (Int.ofNat ln))=false) (h3:(xae op (Int.ofNat 1))=false) (h4:(!xae ct (Int.ofNat 0))=false) (h5:(!xae fi (Int.ofNat 0))=false) (h6:(xae op (Int.ofNat 2))=true) (h7:(xae (Int.ofNat ln) (Int.ofNat 0))=false) (h8:(!xae sub (Int.ofNat 0))=false) (h9:(!xae pl (Int.ofNat 0))=false) (h10:(!xae (Int.ofNat dn) (Int.ofNat ln))=false) (h11:(xae op (Int.ofNat 3))=false) (h12:(xqx op dv)=false) (h13:(AV.plainL lv)=true) (h14:(AV.plainL dv)=true) (h15:(isU IntKind.u64 lv)=true) (h16:(lv.length.beq ln)=true) (h17:(ln.beq ln)=true) (h18:(ln.ble 16)=true) (h19:(isS dv)=true) (h20:(dv.length.beq dn)=true) (h21:(xjn op ln dn)=true) (h22:(!xqx op dv)=true) :
 dE op sub pl fi ct la ln lv da dn dv ((kept ([UInt8.ofNat op.toNat,UInt8.ofNat (xaf IntKind.u8 (Int.ofNat ln)).toNat]++xbw op (xbt lv) (xce dv)))) :=
 xaa (q:=qNs [8,1,1,5,1,1,1,1,1,1,5,1,5,1,1,5,1,1,1,5,0,0,0,0,3,1,1,5,1,1,1,1,5,1,1,1,1,5,1,1,0,0,5,0,0,0,1,0,1,1,1,5,1,1,1,1,1,1,1,1,1,16,1,7,0,3,0,0,3,0,3,0,0,0,0,0,3,0,3,0,0,0,0,0,4,0,3,0,0]) (c:=(cnF::cnF::cnF::cnF::cnF::cnF::cnF::cnF::cnF::cnF::cnF::cnF::cnF::cnF::cnT::cnT::cnT::cnT::cnF::cnF::cnF::cnF::cnF::cnF::cnF::cnF::cnF::cnF::cnF::cnF::cnT::cnT::cnT::cnT::cnT::cnF::cnT::cnF::cnF::cnF::cnF::cnF::cnF::cnF::cnF::cnF::cnF::cnF::cnF::Cnd.code (ZLT.lsumS (xbz tys) ((59,0),sL).snd).fst (ZLT.lsumS (xbz tys) ((59,0),sL).snd).fst::cnF::cnT::cnT::cnT::cnT::cnT::cnT::cnT::cnT::cnT::cnT::cnT::cnT::cnT::cnT::cnT::cnT::cnT::cnT::[])) (by kernel_rfl) ⟨h0,h0,h0,h0,h1,h1,h1,h2,h3,h4,h4,h4,h4,h5,h6,h6,h6,h6,h7,h7,h7,h7,h8,h8,h8,h8,h9,h9,h9,h9,h6,h6,h6,h6,h6,h9,h6,h9,h10,h10,h10,h10,h11,h11,h11,h11,h10,h11,h10,rfl,h12,h13,h13,h14,h13,h13,h14,h15,h16,h17,h18,h13,h19,h20,h21,h22,h13,h13,h14,trivial⟩
theorem xmv (h0:(xae op (Int.ofNat 0))=false) (h1:(xak (Int.ofNat 7) op)=false) (h2:(xak (Int.ofNat 16) (Int.ofNat ln))=false) (h3:(xae op (Int.ofNat 1))=false) (h4:(!xae ct (Int.ofNat 0))=false) (h5:(!xae fi (Int.ofNat 0))=false) (h6:(xae op (Int.ofNat 2))=false) (h7:(xae op (Int.ofNat 3))=true) (h8:(xae (Int.ofNat ln) (Int.ofNat 0))=false) (h9:(!xae sub (Int.ofNat 0))=false) (h10:(!xae pl (Int.ofNat 0))=false) (h11:(!xae (Int.ofNat dn) (Int.ofNat 0))=false) (h12:(xqx op dv)=true) (h13:(AV.plainL lv)=true) (h14:(AV.plainL dv)=true) (h15:(isU IntKind.u64 lv)=true) (h16:(lv.length.beq ln)=true) (h17:(ln.beq ln)=true) (h18:(ln.ble 16)=true) (h19:(isS dv)=true) (h20:(dv.length.beq dn)=true) (h21:(xjn op ln dn)=true) :
 dE op sub pl fi ct la ln lv da dn dv ([]) :=
 xaa (q:=qNs [8,1,1,5,1,1,1,1,1,1,5,1,5,1,1,5,1,1,1,5,1,1,5,1,1,0,1,1,5,1,1,1,1,5,1,1,1,1,5,1,1,1,1,1,1,1,1,1,1,9,0,0,5,0,0,3,0,3,1,15,0,7,0,3,0,0,3,0,3,0,0,0,0,0,3,0,3,0,0,0,0,0,4,0,3,0,0]) (c:=(cnF::cnF::cnF::cnF::cnF::cnF::cnF::cnF::cnF::cnF::cnF::cnF::cnF::cnF::cnF::cnF::cnF::cnF::cnT::cnF::cnF::cnF::cnF::cnF::cnF::cnF::cnF::cnF::cnF::cnF::cnF::cnF::cnF::cnF::cnF::cnF::cnF::cnF::cnF::cnT::cnT::cnT::cnT::cnT::cnF::Cnd.code (ZLT.lsumS (xbz tys) ((59,0),sL).snd).fst (ZLT.lsumS (xbz tys) ((59,0),sL).snd).fst::cnT::cnT::cnT::cnT::cnT::cnT::cnT::cnT::cnT::cnT::cnT::cnT::cnT::cnT::cnT::cnT::cnT::cnT::cnT::[])) (by kernel_rfl) ⟨h0,h0,h0,h0,h1,h1,h1,h2,h3,h4,h4,h4,h4,h5,h6,h6,h6,h6,h7,h8,h8,h8,h8,h9,h9,h9,h9,h10,h10,h10,h10,h6,h6,h6,h6,h6,h10,h6,h10,h7,h7,h7,h7,h7,h11,rfl,h12,h13,h13,h14,h13,h13,h14,h15,h16,h17,h18,h13,h19,h20,h21,h12,h13,h13,h14,trivial⟩
theorem xnd (h0:(xae op (Int.ofNat 0))=false) (h1:(xak (Int.ofNat 7) op)=false) (h2:(xak (Int.ofNat 16) (Int.ofNat ln))=false) (h3:(xae op (Int.ofNat 1))=false) (h4:(!xae ct (Int.ofNat 0))=false) (h5:(!xae fi (Int.ofNat 0))=false) (h6:(xae op (Int.ofNat 2))=false) (h7:(xae op (Int.ofNat 3))=true) (h8:(xae (Int.ofNat ln) (Int.ofNat 0))=false) (h9:(!xae sub (Int.ofNat 0))=false) (h10:(!xae pl (Int.ofNat 0))=false) (h11:(!xae (Int.ofNat dn) (Int.ofNat 0))=false) (h12:(xqx op dv)=false) (h13:(AV.plainL lv)=true) (h14:(AV.plainL dv)=true) (h15:(isU IntKind.u64 lv)=true) (h16:(lv.length.beq ln)=true) (h17:(ln.beq ln)=true) (h18:(ln.ble 16)=true) (h19:(isS dv)=true) (h20:(dv.length.beq dn)=true) (h21:(xjn op ln dn)=true) (h22:(!xqx op dv)=true) :
 dE op sub pl fi ct la ln lv da dn dv ((kept ([UInt8.ofNat op.toNat,UInt8.ofNat (xaf IntKind.u8 (Int.ofNat ln)).toNat]++xbw op (xbt lv) (xce dv)))) :=
 xaa (q:=qNs [8,1,1,5,1,1,1,1,1,1,5,1,5,1,1,5,1,1,1,5,1,1,5,1,1,0,1,1,5,1,1,1,1,5,1,1,1,1,5,1,1,1,1,1,1,1,1,1,1,9,0,0,5,0,0,3,0,3,1,15,1,7,0,3,0,0,3,0,3,0,0,0,0,0,3,0,3,0,0,0,0,0,4,0,3,0,0]) (c:=(cnF::cnF::cnF::cnF::cnF::cnF::cnF::cnF::cnF::cnF::cnF::cnF::cnF::cnF::cnF::cnF::cnF::cnF::cnT::cnF::cnF::cnF::cnF::cnF::cnF::cnF::cnF::cnF::cnF::cnF::cnF::cnF::cnF::cnF::cnF::cnF::cnF::cnF::cnF::cnT::cnT::cnT::cnT::cnT::cnF::Cnd.code (ZLT.lsumS (xbz tys) ((59,0),sL).snd).fst (ZLT.lsumS (xbz tys) ((59,0),sL).snd).fst::cnF::cnT::cnT::cnT::cnT::cnT::cnT::cnT::cnT::cnT::cnT::cnT::cnT::cnT::cnT::cnT::cnT::cnT::cnT::[])) (by kernel_rfl) ⟨h0,h0,h0,h0,h1,h1,h1,h2,h3,h4,h4,h4,h4,h5,h6,h6,h6,h6,h7,h8,h8,h8,h8,h9,h9,h9,h9,h10,h10,h10,h10,h6,h6,h6,h6,h6,h10,h6,h10,h7,h7,h7,h7,h7,h11,rfl,h12,h13,h13,h14,h13,h13,h14,h15,h16,h17,h18,h13,h19,h20,h21,h22,h13,h13,h14,trivial⟩
theorem xng (h0:(xae op (Int.ofNat 0))=false) (h1:(xak (Int.ofNat 7) op)=false) (h2:(xak (Int.ofNat 16) (Int.ofNat ln))=false) (h3:(xae op (Int.ofNat 1))=false) (h4:(!xae ct (Int.ofNat 0))=false) (h5:(!xae fi (Int.ofNat 0))=false) (h6:(xae op (Int.ofNat 2))=false) (h7:(xae op (Int.ofNat 3))=false) (h8:(xak (Int.ofNat 0) (xaf IntKind.i64 ((Int.ofNat ln).add (Int.ofNat dn))))=false) (h9:(xae op (Int.ofNat 4))=false) (h10:(xak (Int.ofNat 2) sub)=false) (h11:(!xae pl (Int.ofNat 0))=true) (h12:(!xae op (Int.ofNat 7))=true) :
 dE op sub pl fi ct la ln lv da dn dv ([]) :=
 xaa (q:=qNs [8,1,1,5,1,1,1,1,1,1,5,1,5,1,1,5,1,1,1,5,1,1,5,1,1,1,5,1,5,1,5,1,1,5,1,1,0,0,5,0,0,0,0,0,0,0,1,0,1,3]) (c:=(cnF::cnF::cnF::cnF::cnF::cnF::cnF::cnF::cnF::cnF::cnF::cnF::cnF::cnF::cnF::cnF::cnF::cnF::cnF::cnF::cnF::cnF::cnF::cnF::cnF::cnT::cnT::cnT::cnT::cnT::cnT::cnT::cnT::cnT::cnF::cnT::cnF::[])) (by kernel_rfl) ⟨h0,h0,h0,h0,h1,h1,h1,h2,h3,h4,h4,h4,h4,h5,h6,h6,h6,h6,h7,h8,h9,h10,h10,h10,h10,h11,h11,h11,h11,h12,h12,h12,h11,h12,h10,h11,h10,trivial⟩
theorem xlw (h0:(xae op (Int.ofNat 0))=false) (h1:(xak (Int.ofNat 7) op)=false) (h2:(xak (Int.ofNat 16) (Int.ofNat ln))=false) (h3:(xae op (Int.ofNat 1))=false) (h4:(!xae ct (Int.ofNat 0))=false) (h5:(!xae fi (Int.ofNat 0))=false) (h6:(xae op (Int.ofNat 2))=true) (h7:(xae (Int.ofNat ln) (Int.ofNat 0))=false) (h8:(!xae sub (Int.ofNat 0))=false) (h9:(!xae pl (Int.ofNat 0))=false) (h10:(!xae (Int.ofNat dn) (Int.ofNat ln))=false) (h11:(xae op (Int.ofNat 3))=true) (h12:(!xae (Int.ofNat dn) (Int.ofNat 0))=false) (h13:(xqx op dv)=true) (h14:(AV.plainL lv)=true) (h15:(AV.plainL dv)=true) (h16:(isU IntKind.u64 lv)=true) (h17:(lv.length.beq ln)=true) (h18:(ln.beq ln)=true) (h19:(ln.ble 16)=true) (h20:(isS dv)=true) (h21:(dv.length.beq dn)=true) (h22:(xjn op ln dn)=true) :
 dE op sub pl fi ct la ln lv da dn dv ([]) :=
 xaa (q:=qNs [8,1,1,5,1,1,1,1,1,1,5,1,5,1,1,5,1,1,1,5,0,0,0,0,3,1,1,5,1,1,1,1,5,1,1,1,1,5,1,1,0,0,5,0,0,0,1,0,1,1,1,5,1,1,0,0,5,0,0,1,0,1,1,15,0,7,0,3,0,0,3,0,3,0,0,0,0,0,3,0,3,0,0,0,0,0,4,0,3,0,0]) (c:=(cnF::cnF::cnF::cnF::cnF::cnF::cnF::cnF::cnF::cnF::cnF::cnF::cnF::cnF::cnT::cnT::cnT::cnT::cnF::cnF::cnF::cnF::cnF::cnF::cnF::cnF::cnF::cnF::cnF::cnF::cnT::cnT::cnT::cnT::cnT::cnF::cnT::cnF::cnF::cnF::cnF::cnF::cnT::cnT::cnT::cnT::cnF::cnT::cnF::cnF::Cnd.code (ZLT.lsumS (xbz tys) ((59,0),sL).snd).fst (ZLT.lsumS (xbz tys) ((59,0),sL).snd).fst::cnT::cnT::cnT::cnT::cnT::cnT::cnT::cnT::cnT::cnT::cnT::cnT::cnT::cnT::cnT::cnT::cnT::cnT::cnT::[])) (by kernel_rfl) ⟨h0,h0,h0,h0,h1,h1,h1,h2,h3,h4,h4,h4,h4,h5,h6,h6,h6,h6,h7,h7,h7,h7,h8,h8,h8,h8,h9,h9,h9,h9,h6,h6,h6,h6,h6,h9,h6,h9,h10,h10,h10,h10,h11,h11,h11,h11,h10,h11,h10,h12,rfl,h13,h14,h14,h15,h14,h14,h15,h16,h17,h18,h19,h14,h20,h21,h22,h13,h14,h14,h15,trivial⟩
theorem xlq (h0:(xae op (Int.ofNat 0))=false) (h1:(xak (Int.ofNat 7) op)=false) (h2:(xak (Int.ofNat 16) (Int.ofNat ln))=false) (h3:(xae op (Int.ofNat 1))=false) (h4:(!xae ct (Int.ofNat 0))=false) (h5:(!xae fi (Int.ofNat 0))=false) (h6:(xae op (Int.ofNat 2))=true) (h7:(xae (Int.ofNat ln) (Int.ofNat 0))=false) (h8:(!xae sub (Int.ofNat 0))=false) (h9:(!xae pl (Int.ofNat 0))=false) (h10:(!xae (Int.ofNat dn) (Int.ofNat ln))=false) (h11:(xae op (Int.ofNat 3))=true) (h12:(!xae (Int.ofNat dn) (Int.ofNat 0))=false) (h13:(xqx op dv)=false) (h14:(AV.plainL lv)=true) (h15:(AV.plainL dv)=true) (h16:(isU IntKind.u64 lv)=true) (h17:(lv.length.beq ln)=true) (h18:(ln.beq ln)=true) (h19:(ln.ble 16)=true) (h20:(isS dv)=true) (h21:(dv.length.beq dn)=true) (h22:(xjn op ln dn)=true) (h23:(!xqx op dv)=true) :
 dE op sub pl fi ct la ln lv da dn dv ((kept ([UInt8.ofNat op.toNat,UInt8.ofNat (xaf IntKind.u8 (Int.ofNat ln)).toNat]++xbw op (xbt lv) (xce dv)))) :=
 xaa (q:=qNs [8,1,1,5,1,1,1,1,1,1,5,1,5,1,1,5,1,1,1,5,0,0,0,0,3,1,1,5,1,1,1,1,5,1,1,1,1,5,1,1,0,0,5,0,0,0,1,0,1,1,1,5,1,1,0,0,5,0,0,1,0,1,1,15,1,7,0,3,0,0,3,0,3,0,0,0,0,0,3,0,3,0,0,0,0,0,4,0,3,0,0]) (c:=(cnF::cnF::cnF::cnF::cnF::cnF::cnF::cnF::cnF::cnF::cnF::cnF::cnF::cnF::cnT::cnT::cnT::cnT::cnF::cnF::cnF::cnF::cnF::cnF::cnF::cnF::cnF::cnF::cnF::cnF::cnT::cnT::cnT::cnT::cnT::cnF::cnT::cnF::cnF::cnF::cnF::cnF::cnT::cnT::cnT::cnT::cnF::cnT::cnF::cnF::Cnd.code (ZLT.lsumS (xbz tys) ((59,0),sL).snd).fst (ZLT.lsumS (xbz tys) ((59,0),sL).snd).fst::cnF::cnT::cnT::cnT::cnT::cnT::cnT::cnT::cnT::cnT::cnT::cnT::cnT::cnT::cnT::cnT::cnT::cnT::cnT::[])) (by kernel_rfl) ⟨h0,h0,h0,h0,h1,h1,h1,h2,h3,h4,h4,h4,h4,h5,h6,h6,h6,h6,h7,h7,h7,h7,h8,h8,h8,h8,h9,h9,h9,h9,h6,h6,h6,h6,h6,h9,h6,h9,h10,h10,h10,h10,h11,h11,h11,h11,h10,h11,h10,h12,rfl,h13,h14,h14,h15,h14,h14,h15,h16,h17,h18,h19,h14,h20,h21,h22,h23,h14,h14,h15,trivial⟩
theorem xlk (h0:(xae op (Int.ofNat 0))=false) (h1:(xak (Int.ofNat 7) op)=false) (h2:(xak (Int.ofNat 16) (Int.ofNat ln))=false) (h3:(xae op (Int.ofNat 1))=false) (h4:(!xae ct (Int.ofNat 0))=false) (h5:(!xae fi (Int.ofNat 0))=false) (h6:(xae op (Int.ofNat 2))=false) (h7:(xae op (Int.ofNat 3))=false) (h8:(xak (Int.ofNat 0) (xaf IntKind.i64 ((Int.ofNat ln).add (Int.ofNat dn))))=false) (h9:(xae op (Int.ofNat 4))=false) (h10:(xak (Int.ofNat 2) sub)=false) (h11:(!xae pl (Int.ofNat 0))=true) (h12:(!xae op (Int.ofNat 7))=false) (h13:(!xae sub (Int.ofNat 0))=true) :
 dE op sub pl fi ct la ln lv da dn dv ([]) :=
 xaa (q:=qNs [8,1,1,5,1,1,1,1,1,1,5,1,5,1,1,5,1,1,1,5,1,1,5,1,1,1,5,1,5,1,5,1,1,5,1,1,0,0,5,0,0,1,1,5,1,0,1,1,0,1,0]) (c:=(cnF::cnF::cnF::cnF::cnF::cnF::cnF::cnF::cnF::cnF::cnF::cnF::cnF::cnF::cnF::cnF::cnF::cnF::cnF::cnF::cnF::cnF::cnF::cnF::cnF::cnT::cnT::cnT::cnT::cnF::cnF::cnF::cnT::cnF::cnF::cnT::cnF::cnT::[])) (by kernel_rfl) ⟨h0,h0,h0,h0,h1,h1,h1,h2,h3,h4,h4,h4,h4,h5,h6,h6,h6,h6,h7,h8,h9,h10,h10,h10,h10,h11,h11,h11,h11,h12,h12,h12,h11,h12,h10,h11,h10,h13,trivial⟩
theorem xma (h0:(xae op (Int.ofNat 0))=false) (h1:(xak (Int.ofNat 7) op)=false) (h2:(xak (Int.ofNat 16) (Int.ofNat ln))=false) (h3:(xae op (Int.ofNat 1))=false) (h4:(!xae ct (Int.ofNat 0))=false) (h5:(!xae fi (Int.ofNat 0))=false) (h6:(xae op (Int.ofNat 2))=false) (h7:(xae op (Int.ofNat 3))=false) (h8:(xak (Int.ofNat 0) (xaf IntKind.i64 ((Int.ofNat ln).add (Int.ofNat dn))))=false) (h9:(xae op (Int.ofNat 4))=false) (h10:(xak (Int.ofNat 2) sub)=false) (h11:(!xae pl (Int.ofNat 0))=true) (h12:(!xae op (Int.ofNat 7))=false) (h13:(!xae sub (Int.ofNat 0))=false) :
 dE op sub pl fi ct la ln lv da dn dv ([UInt8.ofNat op.toNat,UInt8.ofNat sub.toNat,UInt8.ofNat pl.toNat]) :=
 xaa (q:=qNs [8,1,1,5,1,1,1,1,1,1,5,1,5,1,1,5,1,1,1,5,1,1,5,1,1,1,5,1,5,1,5,1,1,5,1,1,0,0,5,0,0,1,1,5,1,0,1,1,0,1,1,20]) (c:=(cnF::cnF::cnF::cnF::cnF::cnF::cnF::cnF::cnF::cnF::cnF::cnF::cnF::cnF::cnF::cnF::cnF::cnF::cnF::cnF::cnF::cnF::cnF::cnF::cnF::cnT::cnT::cnT::cnT::cnF::cnF::cnF::cnT::cnF::cnF::cnT::cnF::cnF::[])) (by kernel_rfl) ⟨h0,h0,h0,h0,h1,h1,h1,h2,h3,h4,h4,h4,h4,h5,h6,h6,h6,h6,h7,h8,h9,h10,h10,h10,h10,h11,h11,h11,h11,h12,h12,h12,h11,h12,h10,h11,h10,h13,trivial⟩
end
theorem xun (x:Int) (h0:0 ≤ x) (h1:x < 256):AV.int IntKind.u8 x=.int .u8 ((UInt8.ofNat x.toNat).toNat:Int):=by
 congr 1
 rw [UInt8.toNat_ofNat']
 omega
theorem docB_no {op sub pl fi ct:Int} {ln dn:Nat} {zs:List UInt32} {ss:List (List UInt8)} (h:¬ xau op sub pl fi ct ln dn):xeb op sub pl fi ct ln dn zs ss=[]:=by
 unfold xeb;rw [if_neg (fun k=>h k.1)]
theorem docB_bad {op sub pl fi ct:Int} {ln dn:Nat} {zs:List UInt32} {ss:List (List UInt8)} (h:okT xdd (encS ss)=false):xeb op sub pl fi ct ln dn zs ss=[]:=by
 unfold xeb;rw [if_neg (fun k=>by rw [h] at k;cases k.2)]
theorem xjs {op sub pl fi ct:Int} {ln dn:Nat} {zs:List UInt32} {ss:List (List UInt8)} (h:xau op sub pl fi ct ln dn) (k:okT xdd (encS ss)=true):xeb op sub pl fi ct ln dn zs ss=xgd op sub pl fi ct zs ss:=by
 unfold xeb;rw [if_pos ⟨h,k⟩]
def docR:xcf:=xcf.pl true fun us=>match us with
 | [.agg [.int .u8 op, .int .u8 sub, .int .u8 pl, .int .u64 fi, .int .u8 ct, .fsl la ln lv, .fsl da dn dv]] =>
  some ([xbr (Int.ofNat 0) op,xbr (Int.ofNat 0) sub,xbr (Int.ofNat 0) pl,xbr (Int.ofNat 0) ct,xbr (Int.ofNat 0) fi,xak fi (Int.ofNat 4294967296),isU .u64 lv,Nat.beq lv.length ln,Nat.ble ln 1000000,isS dv,Nat.beq dv.length dn,Nat.ble dn 1000000], .str (kept (xeb op sub pl fi ct ln dn (xbt lv) (xce dv))))
 | _=>none
section
variable {op sub pl fi ct:Int} {la:Bool} {zs:List UInt32} {da:Bool} {ss:List (List UInt8)}
abbrev dG (op sub pl fi ct:Int) (la:Bool) (zs:List UInt32) (da:Bool) (ss:List (List UInt8)):Prop:=∃ h',xbl xpz 60 (Tgt.fn 59) [.agg [.int .u8 op, .int .u8 sub, .int .u8 pl, .int .u64 fi, .int .u8 ct, .fsl la zs.length (xbs .u64 zs), .fsl da ss.length (encS ss)]] H0=some (AV.str (xeb op sub pl fi ct zs.length ss.length zs ss),h')
theorem dNo (h:dE op sub pl fi ct la zs.length (xbs .u64 zs) da ss.length (encS ss) []) (k:¬ xau op sub pl fi ct zs.length ss.length):dG op sub pl fi ct la zs da ss:=by
 obtain ⟨h',h,_⟩:=h;unfold dG;rw [docB_no k];exact ⟨h',h⟩
theorem dBad (h:dE op sub pl fi ct la zs.length (xbs .u64 zs) da ss.length (encS ss) []) (k:xqx op (encS ss)=true):dG op sub pl fi ct la zs da ss:=by
 unfold xqx at k;rw [Bool.and_eq_true,Bool.not_eq_true'] at k
 obtain ⟨h',h,_⟩:=h;unfold dG;rw [docB_bad k.2];exact ⟨h',h⟩
end
set_option maxHeartbeats 4000000 in
theorem doc_run (op sub pl fi ct:Int) (la:Bool) (zs:List UInt32) (da:Bool) (ss:List (List UInt8)) (o0:0 ≤ op) (s0:0 ≤ sub) (p0:0 ≤ pl) (t0:0 ≤ ct) (f0:0 ≤ fi) (f1:fi < 4294967296) (l1:zs.length ≤ 1000000) (l2:ss.length ≤ 1000000) :
 ∃ h',xbl xpz 60 (Tgt.fn 59) [.agg [.int .u8 op, .int .u8 sub, .int .u8 pl, .int .u64 fi, .int .u8 ct, .fsl la zs.length (xbs .u64 zs), .fsl da ss.length (encS ss)]] H0=some (AV.str (xeb op sub pl fi ct zs.length ss.length zs ss),h'):=by
 have k1:isU .u64 (xbs .u64 zs)=true:=xcj.2 ⟨_,rfl⟩
 have k2:isS (encS ss)=true:=xcx.2 ⟨_,rfl⟩
 have k3:AV.plainL (xbs .u64 zs)=true:=xaw _ _
 have k4:AV.plainL (encS ss)=true:=xbm _
 have k5:((xbs .u64 zs).length.beq zs.length)=true:=by rw [xag];exact Nat.beq_refl _
 have k6:((encS ss).length.beq ss.length)=true:=by rw [xaq];exact Nat.beq_refl _
 have k7:zs.length.beq zs.length=true:=Nat.beq_refl _
 have g0:xbr (Int.ofNat 0) (AV.int IntKind.u64 fi).intOf=true:=by rw [xax];exact decide_eq_true f0
 have g1:xak (AV.int IntKind.u64 fi).intOf (Int.ofNat 18446744073709551616)=true:=by rw [xat];exact decide_eq_true (by show fi < 18446744073709551616;omega)
 have p4:(xdf 4 fi.toNat).length=4:=xcv 4 _
 have rf:xan (ofBytes (xdf 4 fi.toNat)) 0 4=ofBytes (xdf 4 fi.toNat):=xfl _ 4 p4
 have wsum:xaf IntKind.i64 ((zs.length:Int).add (ss.length:Int))=((zs.length+ss.length:Nat):Int):=xbe .i64 (zs.length+ss.length) (by show _ < 9223372036854775808;omega)
 cases q0:(xae op (Int.ofNat 0)) with
 | true =>
  exact dNo (Do_t q0) (by simp only [SL,wsum] at *;unfold xau;omega)
 | false =>
  cases q1:(xak (Int.ofNat 7) op) with
  | true =>
   exact dNo (Do_ft q0 q1) (by simp only [SL,wsum] at *;unfold xau;omega)
  | false =>
   cases q2:(xak (Int.ofNat 16) (Int.ofNat zs.length)) with
   | true =>
    exact dNo (Do_fft q0 q1 q2) (by simp only [SL,wsum] at *;unfold xau;omega)
   | false =>
    cases q3:(xae op (Int.ofNat 1)) with
    | true =>
     cases q4:(xak ct (Int.ofNat 1)) with
     | true =>
      exact dNo (Do_ffftt q0 q1 q2 q3 q4) (by simp only [SL,wsum] at *;unfold xau;omega)
     | false =>
      cases q5:(xak (Int.ofNat 16) ct) with
      | true =>
       exact dNo (Do_ffftft q0 q1 q2 q3 q4 q5) (by simp only [SL,wsum] at *;unfold xau;omega)
      | false =>
       cases q6:(xak (Int.ofNat 0) (xaf IntKind.i64 ((Int.ofNat zs.length).add (Int.ofNat ss.length)))) with
       | true =>
        exact dNo (Do_ffftfft q0 q1 q2 q3 q4 q5 q6) (by simp only [SL,wsum] at *;unfold xau;omega)
       | false =>
        cases q7:(!xae sub (Int.ofNat 0)) with
        | true =>
         exact dNo (Do_ffftffft q0 q1 q2 q3 q4 q5 q6 q7) (by simp only [SL,wsum] at *;unfold xau;omega)
        | false =>
         cases q8:(!xae pl (Int.ofNat 0)) with
         | true =>
          exact dNo (Do_ffftfffft q0 q1 q2 q3 q4 q5 q6 q7 q8) (by simp only [SL,wsum] at *;unfold xau;omega)
         | false =>
          have key:=@Do_ffftfffff op sub pl fi ct la zs.length (xbs .u64 zs) da ss.length (encS ss)
          iterate 14
           replace key:=key (by
            first
             | with_reducible assumption
             | rfl
             | (simp only [xba,xab,AV.intOf,rf,xac,Option.getD_some,p4];done)
             | (simp only [xba,xab,AV.intOf,rf,xac,Option.getD_some,p4];rfl)
             | (simp [xbn,xbq,xab,AV.intOf,rf,xac,p4,xcx,xcj,xag,xaq];done)
             | (simp [xbn,xbq,xab,AV.intOf,rf,xac,p4,xcx,xcj,xag,xaq];omega)
             | exact xcj.2 ⟨_,rfl⟩
             | exact xcx.2 ⟨_,rfl⟩
             | (unfold xjn;simp only [SL] at q0 q1 q2 q3 q4 q5 q6 q7 q8;exact decide_eq_true (by omega))
             | (simp only [SL] at *;simp [xbq];omega))
          obtain ⟨h',h,_⟩:=key
          simp only [SL,wsum] at q0 q1 q2 q3 q4 q5 q6 q7 q8
          have hr:xau op sub pl fi ct zs.length ss.length:=by unfold xau;omega
          have hk:okT xdd (encS ss)=true:=by
           have:ss=[]:=List.eq_nil_of_length_eq_zero (by omega)
           subst this;rfl
          rw [xjs hr hk]
          refine ⟨h',h.trans ?_⟩
          (try simp only [xab,AV.intOf,rf,xac,Option.getD_some,xba,xcn])
          have wl:zs.length ≤ 16 → xaf IntKind.u8 (zs.length:Int)=zs.length:=fun h=>xbe .u8 zs.length (by show zs.length < 256;omega)
          unfold xgd
          first
           | (rw [if_pos (by omega)];simp only [List.cons_append,List.nil_append,List.append_assoc];(try rw [show op=1 by omega]);rfl)
           | (rw [if_neg (by omega),if_pos (by omega),Int.ofNat_eq_natCast,wl (by omega)];rfl)
           | (rw [if_neg (by omega),if_pos (by omega),wl (by omega)];rfl)
           | (rw [if_neg (by omega),if_neg (by omega),if_pos (by omega)];(try rw [show op=4 by omega]);rfl)
           | (rw [if_neg (by omega),if_neg (by omega),if_neg (by omega)])
    | false =>
     cases q4:(!xae ct (Int.ofNat 0)) with
     | true =>
      exact dNo (Do_fffft q0 q1 q2 q3 q4) (by simp only [SL,wsum] at *;unfold xau;omega)
     | false =>
      cases q5:(!xae fi (Int.ofNat 0)) with
      | true =>
       exact dNo (Do_ffffft q0 q1 q2 q3 q4 q5) (by simp only [SL,wsum] at *;unfold xau;omega)
      | false =>
       cases q6:(xae op (Int.ofNat 2)) with
       | true =>
        cases q7:(xae (Int.ofNat zs.length) (Int.ofNat 0)) with
        | true =>
         exact dNo (Do_fffffftt q0 q1 q2 q3 q4 q5 q6 q7) (by simp only [SL,wsum] at *;unfold xau;omega)
        | false =>
         cases q8:(!xae sub (Int.ofNat 0)) with
         | true =>
          exact dNo (Do_fffffftft q0 q1 q2 q3 q4 q5 q6 q7 q8) (by simp only [SL,wsum] at *;unfold xau;omega)
         | false =>
          cases q9:(!xae pl (Int.ofNat 0)) with
          | true =>
           exact dNo (xtf q0 q1 q2 q3 q4 q5 q6 q7 q8 q9) (by simp only [SL,wsum] at *;unfold xau;omega)
          | false =>
           cases q10:(!xae (Int.ofNat ss.length) (Int.ofNat zs.length)) with
           | true =>
            exact dNo (xqg q0 q1 q2 q3 q4 q5 q6 q7 q8 q9 q10) (by simp only [SL,wsum] at *;unfold xau;omega)
           | false =>
            cases q11:(xae op (Int.ofNat 3)) with
            | true =>
             cases q12:(!xae (Int.ofNat ss.length) (Int.ofNat 0)) with
             | true =>
              exact dNo (xmx q0 q1 q2 q3 q4 q5 q6 q7 q8 q9 q10 q11 q12) (by simp only [SL,wsum] at *;unfold xau;omega)
             | false =>
              cases q13:(xqx op (encS ss)) with
              | true =>
               have key:=@xlw op sub pl fi ct la zs.length (xbs .u64 zs) da ss.length (encS ss)
               iterate 23
                replace key:=key (by
                 first
                  | with_reducible assumption
                  | rfl
                  | (simp only [xba,xab,AV.intOf,rf,xac,Option.getD_some,p4];done)
                  | (simp only [xba,xab,AV.intOf,rf,xac,Option.getD_some,p4];rfl)
                  | (simp [xbn,xbq,xab,AV.intOf,rf,xac,p4,xcx,xcj,xag,xaq];done)
                  | (simp [xbn,xbq,xab,AV.intOf,rf,xac,p4,xcx,xcj,xag,xaq];omega)
                  | exact xcj.2 ⟨_,rfl⟩
                  | exact xcx.2 ⟨_,rfl⟩
                  | (unfold xjn;simp only [SL] at q0 q1 q2 q3 q4 q5 q6 q7 q8 q9 q10 q11 q12;exact decide_eq_true (by omega))
                  | (simp only [SL] at *;simp [xbq];omega))
               exact dBad key q13
              | false =>
               have key:=@xlq op sub pl fi ct la zs.length (xbs .u64 zs) da ss.length (encS ss)
               iterate 24
                replace key:=key (by
                 first
                  | with_reducible assumption
                  | rfl
                  | (simp only [xba,xab,AV.intOf,rf,xac,Option.getD_some,p4];done)
                  | (simp only [xba,xab,AV.intOf,rf,xac,Option.getD_some,p4];rfl)
                  | (simp [xbn,xbq,xab,AV.intOf,rf,xac,p4,xcx,xcj,xag,xaq];done)
                  | (simp [xbn,xbq,xab,AV.intOf,rf,xac,p4,xcx,xcj,xag,xaq];omega)
                  | exact xcj.2 ⟨_,rfl⟩
                  | exact xcx.2 ⟨_,rfl⟩
                  | (unfold xjn;simp only [SL] at q0 q1 q2 q3 q4 q5 q6 q7 q8 q9 q10 q11 q12;exact decide_eq_true (by omega))
                  | (simp only [SL] at *;simp [xbq];omega))
               obtain ⟨h',h,_⟩:=key
               simp only [SL,wsum] at q0 q1 q2 q3 q4 q5 q6 q7 q8 q9 q10 q11 q12
               have hr:xau op sub pl fi ct zs.length ss.length:=by unfold xau;omega
               have hk:okT xdd (encS ss)=true:=by
                have b3:=q13
                unfold xqx at b3
                by_cases h2:op=2
                · rw [decide_eq_true h2,Bool.true_and,Bool.not_eq_false'] at b3;exact b3
                · have:ss=[]:=List.eq_nil_of_length_eq_zero (by omega)
                  subst this;rfl
               rw [xjs hr hk]
               refine ⟨h',h.trans ?_⟩
               (try simp only [xab,AV.intOf,rf,xac,Option.getD_some,xba,xcn])
               have wl:zs.length ≤ 16 → xaf IntKind.u8 (zs.length:Int)=zs.length:=fun h=>xbe .u8 zs.length (by show zs.length < 256;omega)
               unfold xgd
               first
                | (rw [if_pos (by omega)];simp only [List.cons_append,List.nil_append,List.append_assoc];(try rw [show op=1 by omega]);rfl)
                | (rw [if_neg (by omega),if_pos (by omega),Int.ofNat_eq_natCast,wl (by omega)];rfl)
                | (rw [if_neg (by omega),if_pos (by omega),wl (by omega)];rfl)
                | (rw [if_neg (by omega),if_neg (by omega),if_pos (by omega)];(try rw [show op=4 by omega]);rfl)
                | (rw [if_neg (by omega),if_neg (by omega),if_neg (by omega)])
            | false =>
             cases q12:(xqx op (encS ss)) with
             | true =>
              have key:=@xnc op sub pl fi ct la zs.length (xbs .u64 zs) da ss.length (encS ss)
              iterate 22
               replace key:=key (by
                first
                 | with_reducible assumption
                 | rfl
                 | (simp only [xba,xab,AV.intOf,rf,xac,Option.getD_some,p4];done)
                 | (simp only [xba,xab,AV.intOf,rf,xac,Option.getD_some,p4];rfl)
                 | (simp [xbn,xbq,xab,AV.intOf,rf,xac,p4,xcx,xcj,xag,xaq];done)
                 | (simp [xbn,xbq,xab,AV.intOf,rf,xac,p4,xcx,xcj,xag,xaq];omega)
                 | exact xcj.2 ⟨_,rfl⟩
                 | exact xcx.2 ⟨_,rfl⟩
                 | (unfold xjn;simp only [SL] at q0 q1 q2 q3 q4 q5 q6 q7 q8 q9 q10 q11;exact decide_eq_true (by omega))
                 | (simp only [SL] at *;simp [xbq];omega))
              exact dBad key q12
             | false =>
              have key:=@xmw op sub pl fi ct la zs.length (xbs .u64 zs) da ss.length (encS ss)
              iterate 23
               replace key:=key (by
                first
                 | with_reducible assumption
                 | rfl
                 | (simp only [xba,xab,AV.intOf,rf,xac,Option.getD_some,p4];done)
                 | (simp only [xba,xab,AV.intOf,rf,xac,Option.getD_some,p4];rfl)
                 | (simp [xbn,xbq,xab,AV.intOf,rf,xac,p4,xcx,xcj,xag,xaq];done)
                 | (simp [xbn,xbq,xab,AV.intOf,rf,xac,p4,xcx,xcj,xag,xaq];omega)
                 | exact xcj.2 ⟨_,rfl⟩
                 | exact xcx.2 ⟨_,rfl⟩
                 | (unfold xjn;simp only [SL] at q0 q1 q2 q3 q4 q5 q6 q7 q8 q9 q10 q11;exact decide_eq_true (by omega))
                 | (simp only [SL] at *;simp [xbq];omega))
              obtain ⟨h',h,_⟩:=key
              simp only [SL,wsum] at q0 q1 q2 q3 q4 q5 q6 q7 q8 q9 q10 q11
              have hr:xau op sub pl fi ct zs.length ss.length:=by unfold xau;omega
              have hk:okT xdd (encS ss)=true:=by
               have b3:=q12
               unfold xqx at b3
               by_cases h2:op=2
               · rw [decide_eq_true h2,Bool.true_and,Bool.not_eq_false'] at b3;exact b3
               · have:ss=[]:=List.eq_nil_of_length_eq_zero (by omega)
                 subst this;rfl
              rw [xjs hr hk]
              refine ⟨h',h.trans ?_⟩
              (try simp only [xab,AV.intOf,rf,xac,Option.getD_some,xba,xcn])
              have wl:zs.length ≤ 16 → xaf IntKind.u8 (zs.length:Int)=zs.length:=fun h=>xbe .u8 zs.length (by show zs.length < 256;omega)
              unfold xgd
              first
               | (rw [if_pos (by omega)];simp only [List.cons_append,List.nil_append,List.append_assoc];(try rw [show op=1 by omega]);rfl)
               | (rw [if_neg (by omega),if_pos (by omega),Int.ofNat_eq_natCast,wl (by omega)];rfl)
               | (rw [if_neg (by omega),if_pos (by omega),wl (by omega)];rfl)
               | (rw [if_neg (by omega),if_neg (by omega),if_pos (by omega)];(try rw [show op=4 by omega]);rfl)
               | (rw [if_neg (by omega),if_neg (by omega),if_neg (by omega)])
       | false =>
        cases q7:(xae op (Int.ofNat 3)) with
        | true =>
         cases q8:(xae (Int.ofNat zs.length) (Int.ofNat 0)) with
         | true =>
          exact dNo (Do_ffffffftt q0 q1 q2 q3 q4 q5 q6 q7 q8) (by simp only [SL,wsum] at *;unfold xau;omega)
         | false =>
          cases q9:(!xae sub (Int.ofNat 0)) with
          | true =>
           exact dNo (xse q0 q1 q2 q3 q4 q5 q6 q7 q8 q9) (by simp only [SL,wsum] at *;unfold xau;omega)
          | false =>
           cases q10:(!xae pl (Int.ofNat 0)) with
           | true =>
            exact dNo (xqq q0 q1 q2 q3 q4 q5 q6 q7 q8 q9 q10) (by simp only [SL,wsum] at *;unfold xau;omega)
           | false =>
            cases q11:(!xae (Int.ofNat ss.length) (Int.ofNat 0)) with
            | true =>
             exact dNo (xpb q0 q1 q2 q3 q4 q5 q6 q7 q8 q9 q10 q11) (by simp only [SL,wsum] at *;unfold xau;omega)
            | false =>
             cases q12:(xqx op (encS ss)) with
             | true =>
              have key:=@xmv op sub pl fi ct la zs.length (xbs .u64 zs) da ss.length (encS ss)
              iterate 22
               replace key:=key (by
                first
                 | with_reducible assumption
                 | rfl
                 | (simp only [xba,xab,AV.intOf,rf,xac,Option.getD_some,p4];done)
                 | (simp only [xba,xab,AV.intOf,rf,xac,Option.getD_some,p4];rfl)
                 | (simp [xbn,xbq,xab,AV.intOf,rf,xac,p4,xcx,xcj,xag,xaq];done)
                 | (simp [xbn,xbq,xab,AV.intOf,rf,xac,p4,xcx,xcj,xag,xaq];omega)
                 | exact xcj.2 ⟨_,rfl⟩
                 | exact xcx.2 ⟨_,rfl⟩
                 | (unfold xjn;simp only [SL] at q0 q1 q2 q3 q4 q5 q6 q7 q8 q9 q10 q11;exact decide_eq_true (by omega))
                 | (simp only [SL] at *;simp [xbq];omega))
              exact dBad key q12
             | false =>
              have key:=@xnd op sub pl fi ct la zs.length (xbs .u64 zs) da ss.length (encS ss)
              iterate 23
               replace key:=key (by
                first
                 | with_reducible assumption
                 | rfl
                 | (simp only [xba,xab,AV.intOf,rf,xac,Option.getD_some,p4];done)
                 | (simp only [xba,xab,AV.intOf,rf,xac,Option.getD_some,p4];rfl)
                 | (simp [xbn,xbq,xab,AV.intOf,rf,xac,p4,xcx,xcj,xag,xaq];done)
                 | (simp [xbn,xbq,xab,AV.intOf,rf,xac,p4,xcx,xcj,xag,xaq];omega)
                 | exact xcj.2 ⟨_,rfl⟩
                 | exact xcx.2 ⟨_,rfl⟩
                 | (unfold xjn;simp only [SL] at q0 q1 q2 q3 q4 q5 q6 q7 q8 q9 q10 q11;exact decide_eq_true (by omega))
                 | (simp only [SL] at *;simp [xbq];omega))
              obtain ⟨h',h,_⟩:=key
              simp only [SL,wsum] at q0 q1 q2 q3 q4 q5 q6 q7 q8 q9 q10 q11
              have hr:xau op sub pl fi ct zs.length ss.length:=by unfold xau;omega
              have hk:okT xdd (encS ss)=true:=by
               have b3:=q12
               unfold xqx at b3
               by_cases h2:op=2
               · rw [decide_eq_true h2,Bool.true_and,Bool.not_eq_false'] at b3;exact b3
               · have:ss=[]:=List.eq_nil_of_length_eq_zero (by omega)
                 subst this;rfl
              rw [xjs hr hk]
              refine ⟨h',h.trans ?_⟩
              (try simp only [xab,AV.intOf,rf,xac,Option.getD_some,xba,xcn])
              have wl:zs.length ≤ 16 → xaf IntKind.u8 (zs.length:Int)=zs.length:=fun h=>xbe .u8 zs.length (by show zs.length < 256;omega)
              unfold xgd
              first
               | (rw [if_pos (by omega)];simp only [List.cons_append,List.nil_append,List.append_assoc];(try rw [show op=1 by omega]);rfl)
               | (rw [if_neg (by omega),if_pos (by omega),Int.ofNat_eq_natCast,wl (by omega)];rfl)
               | (rw [if_neg (by omega),if_pos (by omega),wl (by omega)];rfl)
               | (rw [if_neg (by omega),if_neg (by omega),if_pos (by omega)];(try rw [show op=4 by omega]);rfl)
               | (rw [if_neg (by omega),if_neg (by omega),if_neg (by omega)])
        | false =>
         cases q8:(xak (Int.ofNat 0) (xaf IntKind.i64 ((Int.ofNat zs.length).add (Int.ofNat ss.length)))) with
         | true =>
          exact dNo (Do_fffffffft q0 q1 q2 q3 q4 q5 q6 q7 q8) (by simp only [SL,wsum] at *;unfold xau;omega)
         | false =>
          cases q9:(xae op (Int.ofNat 4)) with
          | true =>
           cases q10:(!xae sub (Int.ofNat 0)) with
           | true =>
            exact dNo (xqc q0 q1 q2 q3 q4 q5 q6 q7 q8 q9 q10) (by simp only [SL,wsum] at *;unfold xau;omega)
           | false =>
            cases q11:(!xae pl (Int.ofNat 0)) with
            | true =>
             exact dNo (xnp q0 q1 q2 q3 q4 q5 q6 q7 q8 q9 q10 q11) (by simp only [SL,wsum] at *;unfold xau;omega)
            | false =>
             have key:=xps (la:=la) (da:=da) (lv:=xbs .u64 zs) (ln:=zs.length) (dn:=ss.length) (dv:=encS ss) (op:=op) (sub:=sub) (pl:=pl) (fi:=fi) (ct:=ct) q0 q1 q2 q3 q4 q5 q6 q7 q8 q9 q10 q11
             obtain ⟨h',h,_⟩:=key
             simp only [SL,wsum] at q0 q1 q2 q3 q4 q5 q6 q7 q8 q9 q10 q11
             have hr:xau op sub pl fi ct zs.length ss.length:=by unfold xau;omega
             have hk:okT xdd (encS ss)=true:=by
              have:ss=[]:=List.eq_nil_of_length_eq_zero (by omega)
              subst this;rfl
             rw [xjs hr hk]
             refine ⟨h',h.trans ?_⟩
             (try simp only [xab,AV.intOf,rf,xac,Option.getD_some,xba,xcn])
             have wl:zs.length ≤ 16 → xaf IntKind.u8 (zs.length:Int)=zs.length:=fun h=>xbe .u8 zs.length (by show zs.length < 256;omega)
             unfold xgd
             first
              | (rw [if_pos (by omega)];simp only [List.cons_append,List.nil_append,List.append_assoc];(try rw [show op=1 by omega]);rfl)
              | (rw [if_neg (by omega),if_pos (by omega),Int.ofNat_eq_natCast,wl (by omega)];rfl)
              | (rw [if_neg (by omega),if_pos (by omega),wl (by omega)];rfl)
              | (rw [if_neg (by omega),if_neg (by omega),if_pos (by omega)];(try rw [show op=4 by omega]);rfl)
              | (rw [if_neg (by omega),if_neg (by omega),if_neg (by omega)])
          | false =>
           cases q10:(xak (Int.ofNat 2) sub) with
           | true =>
            exact dNo (xqe q0 q1 q2 q3 q4 q5 q6 q7 q8 q9 q10) (by simp only [SL,wsum] at *;unfold xau;omega)
           | false =>
            cases q11:(!xae pl (Int.ofNat 0)) with
            | true =>
             cases q12:(!xae op (Int.ofNat 7)) with
             | true =>
              exact dNo (xng q0 q1 q2 q3 q4 q5 q6 q7 q8 q9 q10 q11 q12) (by simp only [SL,wsum] at *;unfold xau;omega)
             | false =>
              cases q13:(!xae sub (Int.ofNat 0)) with
              | true =>
               exact dNo (xlk q0 q1 q2 q3 q4 q5 q6 q7 q8 q9 q10 q11 q12 q13) (by simp only [SL,wsum] at *;unfold xau;omega)
              | false =>
               have key:=xma (la:=la) (da:=da) (lv:=xbs .u64 zs) (ln:=zs.length) (dn:=ss.length) (dv:=encS ss) (op:=op) (sub:=sub) (pl:=pl) (fi:=fi) (ct:=ct) q0 q1 q2 q3 q4 q5 q6 q7 q8 q9 q10 q11 q12 q13
               obtain ⟨h',h,_⟩:=key
               simp only [SL,wsum] at q0 q1 q2 q3 q4 q5 q6 q7 q8 q9 q10 q11 q12 q13
               have hr:xau op sub pl fi ct zs.length ss.length:=by unfold xau;omega
               have hk:okT xdd (encS ss)=true:=by
                have:ss=[]:=List.eq_nil_of_length_eq_zero (by omega)
                subst this;rfl
               rw [xjs hr hk]
               refine ⟨h',h.trans ?_⟩
               (try simp only [xab,AV.intOf,rf,xac,Option.getD_some,xba,xcn])
               have wl:zs.length ≤ 16 → xaf IntKind.u8 (zs.length:Int)=zs.length:=fun h=>xbe .u8 zs.length (by show zs.length < 256;omega)
               unfold xgd
               first
                | (rw [if_pos (by omega)];simp only [List.cons_append,List.nil_append,List.append_assoc];(try rw [show op=1 by omega]);rfl)
                | (rw [if_neg (by omega),if_pos (by omega),Int.ofNat_eq_natCast,wl (by omega)];rfl)
                | (rw [if_neg (by omega),if_pos (by omega),wl (by omega)];rfl)
                | (rw [if_neg (by omega),if_neg (by omega),if_pos (by omega)];(try rw [show op=4 by omega]);rfl)
                | (rw [if_neg (by omega),if_neg (by omega),if_neg (by omega)])
            | false =>
             have key:=xpd (la:=la) (da:=da) (lv:=xbs .u64 zs) (ln:=zs.length) (dn:=ss.length) (dv:=encS ss) (op:=op) (sub:=sub) (pl:=pl) (fi:=fi) (ct:=ct) q0 q1 q2 q3 q4 q5 q6 q7 q8 q9 q10 q11
             obtain ⟨h',h,_⟩:=key
             simp only [SL,wsum] at q0 q1 q2 q3 q4 q5 q6 q7 q8 q9 q10 q11
             have hr:xau op sub pl fi ct zs.length ss.length:=by unfold xau;omega
             have hk:okT xdd (encS ss)=true:=by
              have:ss=[]:=List.eq_nil_of_length_eq_zero (by omega)
              subst this;rfl
             rw [xjs hr hk]
             refine ⟨h',h.trans ?_⟩
             (try simp only [xab,AV.intOf,rf,xac,Option.getD_some,xba,xcn])
             have wl:zs.length ≤ 16 → xaf IntKind.u8 (zs.length:Int)=zs.length:=fun h=>xbe .u8 zs.length (by show zs.length < 256;omega)
             unfold xgd
             first
              | (rw [if_pos (by omega)];simp only [List.cons_append,List.nil_append,List.append_assoc];(try rw [show op=1 by omega]);rfl)
              | (rw [if_neg (by omega),if_pos (by omega),Int.ofNat_eq_natCast,wl (by omega)];rfl)
              | (rw [if_neg (by omega),if_pos (by omega),wl (by omega)];rfl)
              | (rw [if_neg (by omega),if_neg (by omega),if_pos (by omega)];(try rw [show op=4 by omega]);rfl)
              | (rw [if_neg (by omega),if_neg (by omega),if_neg (by omega)])
theorem docR_ok:xcf.Sound Try.prog tys 59 docR:=by
 refine xcf.soundZ (cxZ xbd) all10h (xcf.pl_ok fun us q v hm hc=>?_)
 split at hm
 · rename_i op sub pl fi ct la ln lv da dn dv
   injection hm with hm;injection hm with e1 e2;subst e1;subst e2
   simp only [xah,xax,xat,decide_eq_true_eq,Int.ofNat_eq_natCast] at hc
   obtain ⟨c1,c2,c3,c4,c5,c6,c7,c8,c9,c10,c11,c12,_⟩:=hc
   obtain ⟨zs,rfl⟩:=xcj.1 c7
   obtain ⟨ss,rfl⟩:=xcx.1 c10
   have c8:=xaj c8
   have c11:=xaj c11
   rw [xag] at c8
   rw [xaq] at c11
   subst c8;subst c11
   rw [xab,xba,xcn]
   exact ⟨rfl,60,doc_run op sub pl fi ct la zs da ss c1 c2 c3 c4 c5 c6 (Nat.le_of_ble_eq_true c9) (Nat.le_of_ble_eq_true c12)⟩
 · cases hm
end Go.Proofs.Ytecncappdnhbaaa
end
end

section
noncomputable section
namespace Go.Proofs.Ytecncappdnhbaaa
open Go.Ab.M Go.Ab Go
def rTw:List AV → Bool:=fun us=>match us with
 | [.agg [.int .u8 op, .int .u8 sub, .int .u8 pl, .int .u32 fi, .int .u8 ct, .fsl la ln lv, .fsl da dn dv]]=>kept (xbi op sub pl fi ct ln dn dv)
 | _=>false
def rT4:List AV → Bool:=fun us=>match us with
 | [.agg [.int .u8 op,_,_,_,_,_,_]]=>xae op (Int.ofNat 4)
 | _=>false
def bytesN:xcf:=xcf.pl true fun us=>match us with
 | [.agg [.int .u8 op, .int .u8 sub, .int .u8 pl, .int .u32 fi, .int .u8 ct, .fsl la ln lv, .fsl da dn dv]]=>some ([xbr (Int.ofNat 0) sub,xbr (Int.ofNat 0) pl,xbr pl (Int.ofNat 255),xbr (Int.ofNat 0) ct,xbr ct (Int.ofNat 255),xbr (Int.ofNat 0) fi,xak fi (Int.ofNat 4294967296),isU .u32 lv,Nat.beq lv.length ln,isD dv,Nat.beq dv.length dn,Nat.ble dn 1000000,!xbi op sub pl fi ct ln dn dv], .tuple [.slice none 0 (some 0), .int .i64 (Int.ofNat 2)])
 | _=>none
def bytesY:xcf:=xcf.nb true fun us=>match us with
 | [.agg [.int .u8 op, .int .u8 sub, .int .u8 pl, .int .u32 fi, .int .u8 ct, .fsl la ln lv, .fsl da dn dv]]=>some ([xbr (Int.ofNat 0) sub,xbr (Int.ofNat 0) pl,xbr pl (Int.ofNat 255),xbr (Int.ofNat 0) ct,xbr ct (Int.ofNat 255),xbr (Int.ofNat 0) fi,xak fi (Int.ofNat 4294967296),isU .u32 lv,Nat.beq lv.length ln,isD dv,Nat.beq dv.length dn,Nat.ble dn 1000000,xbi op sub pl fi ct ln dn dv,!xae op (Int.ofNat 4)],fun n=>.tuple [.slice (some (n,0)) (kept (xkw op ln)) none, .int .i64 (Int.ofNat 0)],[.cells true 5 (kept (xkw op ln)) (kept (ofBytes (xgd op sub pl fi ct (xbt lv) (xjd dv))))])
 | _=>none
def bytes4:xcf:=xcf.nb true fun us=>match us with
 | [.agg [.int .u8 op, .int .u8 sub, .int .u8 pl, .int .u32 fi, .int .u8 ct, .fsl la ln lv, .fsl da dn dv]]=>some ([xbr (Int.ofNat 0) sub,xbr (Int.ofNat 0) pl,xbr pl (Int.ofNat 255),xbr (Int.ofNat 0) ct,xbr ct (Int.ofNat 255),xbr (Int.ofNat 0) fi,xak fi (Int.ofNat 4294967296),isU .u32 lv,Nat.beq lv.length ln,isD dv,Nat.beq dv.length dn,Nat.ble dn 1000000,xbi op sub pl fi ct ln dn dv,xae op (Int.ofNat 4)],fun n=>.tuple [.slice (some (n,0)) 1 (some 1), .int .i64 (Int.ofNat 0)],[.cells true 5 1 [.int .u8 (Int.ofNat 4)]])
 | _=>none
theorem fin1 {cx:Cx} {g:FuncId} {us:List AV} {h':xas} {j L:Nat} {cp:Option Nat} {b:Blk} (h:xbl cx 60 (.fn g) us H0=some (AV.tuple [.slice (some (j,0)) L cp, .int .i64 (Int.ofNat 0)],h')) (hb:[j].map h'.get=[b]) :
 ∃ (f:Nat) (h':xas) (sel:List Nat) (v0:AV),xbl cx f (.fn g) us H0=some (v0,h')∧sel.map h'.get=[b] ∧
  (∀ (l l' j:Nat),sel[l]? = some j → sel[l']? = some j → l=l')∧v0.ok true (fun b=>sel.contains b)=true∧∀ (n:Nat) (ρ:Nat → Nat),(∀ (l j:Nat),sel[l]? = some j → ρ j=n+l) → AV.Le (v0.ren ρ) (.tuple [.slice (some (n,0)) L cp, .int .i64 (Int.ofNat 0)]):=by
 refine ⟨60,h',[j],_,h,hb,xhv j,by simp [AV.ok,AV.okL],fun n ρ hρ=>?_⟩
 have:=hρ 0 j rfl
 simp only [AV.ren,AV.renL,Option.map_some,this,Nat.add_zero]
 exact AV.Le.refl _
theorem xfd {op sub pl fi ct:Int} {ln dn:Nat} {dv:List AV} (h:xbi op sub pl fi ct ln dn dv=true):xqt op ln dn dv=true:=by
 unfold xbi at h
 rw [Bool.and_eq_true,decide_eq_true_eq] at h
 refine decide_eq_true fun ho=>⟨?_,h.2⟩
 have:=h.1;unfold xau at this
 have:=this.2.2.2.2.2.2.2.1 ho;omega
theorem xoa {op sub pl fi ct:Int} {ln dn:Nat} {dv:List AV} (h:xbi op sub pl fi ct ln dn dv=true):xau op sub pl fi ct ln dn:=by
 unfold xbi at h
 rw [Bool.and_eq_true,decide_eq_true_eq] at h
 exact h.1
theorem reqB_len {op sub pl fi ct:Int} {zs:List UInt32} {ds:List (Bool × List UInt8)} (h:xbi op sub pl fi ct zs.length ds.length (xcu ds)=true):(xgd op sub pl fi ct zs (xjd (xcu ds))).length=xkw op zs.length:=by
 have hP:=xoa h
 have hD:=xfd h
 unfold xqt at hD
 have hD:=of_decide_eq_true hD
 have ed:xjd (xcu ds)=ds.map Prod.snd:=by unfold xjd;rw [xcw]
 have bl:(xbw op zs (ds.map Prod.snd)).length=xda op zs.length:=xgt op zs (ds.map Prod.snd) (fun h=>by have:=(hD h).1;rw [List.length_map];omega) (fun h i x _ hd=>by
  rw [List.getElem?_map,Option.map_eq_some_iff] at hd
  obtain ⟨x,hx,rfl⟩:=hd
  exact xaj (xnx (hD h).2 hx))
 rw [ed]
 have p4:(xdf 4 fi.toNat).length=4:=xcv 4 _
 unfold xgd xkw
 split
 · rw [List.length_cons,List.length_append,p4];rfl
 · split
   · rw [List.length_append,bl];rfl
   · split <;> rfl
theorem bytesN_ok:xcf.Sound Try.prog tys 57 bytesN:=by
 refine xcf.soundZ (cxZ xbd) all10h (xcf.pl_ok fun us q v hm hc=>?_)
 split at hm
 · rename_i op sub pl fi ct la ln lv da dn dv
   injection hm with hm;injection hm with e1 e2;subst e1;subst e2
   simp only [xah] at hc
   obtain ⟨a1,a2,a3,a4,a5,a6,a7,c1,c2,c3,c4,c5,hr,_⟩:=hc
   have b1:=of_decide_eq_true ((xax _ _).symm.trans a1)
   have b2:=of_decide_eq_true ((xax _ _).symm.trans a2)
   have b3:=of_decide_eq_true ((xax _ _).symm.trans a3)
   have b4:=of_decide_eq_true ((xax _ _).symm.trans a4)
   have b5:=of_decide_eq_true ((xax _ _).symm.trans a5)
   have b6:=of_decide_eq_true ((xax _ _).symm.trans a6)
   have b7:=of_decide_eq_true ((xat _ _).symm.trans a7)
   simp only [Int.ofNat_eq_natCast] at b1 b2 b3 b4 b5 b6 b7
   obtain ⟨zs,rfl⟩:=xcj.1 c1
   obtain ⟨ds,rfl⟩:=xgk.1 c3
   have c2:=xaj c2
   have c4:=xaj c4
   rw [xag] at c2
   rw [xay] at c4
   subst c2;subst c4
   have c5:=Nat.le_of_ble_eq_true c5
   have k1:isD (xcu ds)=true:=c3
   have k2:((xcu ds).length.beq ds.length)=true:=by rw [xay];exact Nat.beq_refl _
   have k3:(ds.length.ble 1099511627776)=true:=Nat.ble_eq_true_of_le (by omega)
   have k4:AV.plainL (xbs .u32 zs)=true:=xaw _ _
   have k5:AV.plainL (xcu ds)=true:=xbv _
   refine ⟨rfl,60,?_⟩
   obtain ⟨h',h,_⟩:=By_t op sub pl fi ct la zs.length (xbs .u32 zs) da ds.length (xcu ds) k4 k5 a1 a2 a4 a5 k1 k2 k3 (by rw [xab];exact hr)
   exact ⟨h',h⟩
 · cases hm
theorem u8b (x:Int) (h0:0 ≤ x) (h1:x < 256):AV.int IntKind.u8 x=.int .u8 ((UInt8.ofNat x.toNat).toNat:Int):=xun x h0 h1
set_option maxHeartbeats 4000000 in
theorem bytesY_ok:xcf.Sound Try.prog tys 57 bytesY:=by
 refine xcf.soundZ (cxZ xbd) all10h (xcf.nb_ok fun us q v bs hm hc=>?_)
 split at hm
 · rename_i op sub pl fi ct la ln lv da dn dv
   injection hm with hm;injection hm with e1 hm;injection hm with e2 e3;simp only [xab] at e2 e3;subst e1;subst e2;subst e3
   simp only [xah] at hc
   obtain ⟨a1,a2,a3,a4,a5,a6,a7,c1,c2,c3,c4,c5,hr,n4,_⟩:=hc
   have b1:=of_decide_eq_true ((xax _ _).symm.trans a1)
   have b2:=of_decide_eq_true ((xax _ _).symm.trans a2)
   have b3:=of_decide_eq_true ((xax _ _).symm.trans a3)
   have b4:=of_decide_eq_true ((xax _ _).symm.trans a4)
   have b5:=of_decide_eq_true ((xax _ _).symm.trans a5)
   have b6:=of_decide_eq_true ((xax _ _).symm.trans a6)
   have b7:=of_decide_eq_true ((xat _ _).symm.trans a7)
   simp only [Int.ofNat_eq_natCast] at b1 b2 b3 b4 b5 b6 b7
   obtain ⟨zs,rfl⟩:=xcj.1 c1
   obtain ⟨ds,rfl⟩:=xgk.1 c3
   have c2:=xaj c2
   have c4:=xaj c4
   rw [xag] at c2
   rw [xay] at c4
   subst c2;subst c4
   have c5:=Nat.le_of_ble_eq_true c5
   have k1:isD (xcu ds)=true:=c3
   have k2:((xcu ds).length.beq ds.length)=true:=by rw [xay];exact Nat.beq_refl _
   have k3:(ds.length.ble 1099511627776)=true:=Nat.ble_eq_true_of_le (by omega)
   have k4:AV.plainL (xbs .u32 zs)=true:=xaw _ _
   have k5:AV.plainL (xcu ds)=true:=xbv _
   have hP:=xoa hr
   have len:=reqB_len hr
   have ed:xjd (xcu ds)=ds.map Prod.snd:=by unfold xjd;rw [xcw]
   rw [xba]
   have n4:op ≠ 4:=by simp only [AV.intOf,xaz,xat,xax,beq_iff_eq,beq_eq_false_iff_ne,ne_eq,decide_eq_true_eq,decide_eq_false_iff_not,Bool.not_eq_true',Bool.not_eq_false',Bool.not_true,Bool.not_false,Bool.not_not,Int.ofNat_eq_natCast] at n4;exact n4
   refine ⟨fun b hb=>?_,?_⟩
   · have:b=.cells true 5 (xkw op zs.length) (ofBytes (xgd op sub pl fi ct zs (xjd (xcu ds)))):=by simpa using hb
     subst this
     simp only [Blk.plainOwn,xey,Bool.and_self]
   unfold xau at hP
   by_cases h1:op=1
   · have t1:xae op (Int.ofNat 1)=true:=by rw [h1];rfl
     have key:=By_ft op sub pl fi ct la zs.length (xbs .u32 zs) da ds.length (xcu ds)
     iterate 14
      replace key:=key (by
       (try simp only [xab,AV.intOf,t1])
       first
        | done
        | with_reducible assumption
        | with_reducible rfl
        | with_reducible exact xao _
        | (rw [hr];rfl)
        | (rw [u8b op (by omega) (by omega)];exact xbc [_])
        | (rw [u8b op (by omega) (by omega),wln,lnb];exact xbc [_,_])
        | (simp [xbn,xbq,xag];done)
        | (simp [xbn,xbq,xag];omega)
        | exact xfd hr)
     obtain ⟨h',h,hb⟩:=key
     have el:xkw op zs.length=6:=by unfold xkw;rw [if_pos h1]
     rw [el]
     have ec:xgd op sub pl fi ct zs (xjd (xcu ds))=UInt8.ofNat op.toNat::(xdf 4 fi.toNat++[UInt8.ofNat ct.toNat]):=by unfold xgd;rw [if_pos h1]
     rw [ec]
     refine fin1 h (hb.trans ?_)
     simp only [xab,AV.intOf]
     rw [u8b ct (by omega) (by omega)]
     rfl
   · have t1:xae op (Int.ofNat 1)=false:=by rw [xaz];exact beq_eq_false_iff_ne.2 h1
     by_cases h2:op=2
     · have t2:xae op (Int.ofNat 2)=true:=by rw [h2];rfl
       have wln:xaf IntKind.u8 (Int.ofNat zs.length)=zs.length:=xbe .u8 zs.length (by show zs.length < 256;omega)
       have lnb:=u8b (zs.length:Int) (by omega) (by omega)
       have key:=By_fft op sub pl fi ct la zs.length (xbs .u32 zs) da ds.length (xcu ds)
       iterate 20
        replace key:=key (by
         (try simp only [xab,AV.intOf,t1,t2])
         first
          | done
          | with_reducible assumption
          | with_reducible rfl
          | with_reducible exact xao _
          | (rw [hr];rfl)
          | (rw [u8b op (by omega) (by omega)];exact xbc [_])
          | (rw [u8b op (by omega) (by omega),wln,lnb];exact xbc [_,_])
          | (simp [xbn,xbq,xag];done)
          | (simp [xbn,xbq,xag];omega)
          | exact xfd hr)
       obtain ⟨h',h,hb⟩:=key
       have el:xkw op zs.length=2+xda op zs.length:=by unfold xkw;rw [if_neg h1,if_pos (.inl h2)]
       have ec:xgd op sub pl fi ct zs (xjd (xcu ds))=[UInt8.ofNat op.toNat,UInt8.ofNat zs.length]++xbw op zs (xjd (xcu ds)):=by unfold xgd;rw [if_neg h1,if_pos (.inl h2)]
       rw [el,ec]
       simp only [xab] at h hb
       refine fin1 h (hb.trans ?_)
       simp only [AV.intOf,wln,xba]
       rfl
     · have t2:xae op (Int.ofNat 2)=false:=by rw [xaz];exact beq_eq_false_iff_ne.2 h2
       by_cases h3:op=3
       · have t3:xae op (Int.ofNat 3)=true:=by rw [h3];rfl
         have wln:xaf IntKind.u8 (Int.ofNat zs.length)=zs.length:=xbe .u8 zs.length (by show zs.length < 256;omega)
         have lnb:=u8b (zs.length:Int) (by omega) (by omega)
         have key:=By_ffft op sub pl fi ct la zs.length (xbs .u32 zs) da ds.length (xcu ds)
         iterate 21
          replace key:=key (by
           (try simp only [xab,AV.intOf,t1,t2,t3])
           first
            | done
            | with_reducible assumption
            | with_reducible rfl
            | with_reducible exact xao _
            | (rw [hr];rfl)
            | (rw [u8b op (by omega) (by omega)];exact xbc [_])
            | (rw [u8b op (by omega) (by omega),wln,lnb];exact xbc [_,_])
            | (simp [xbn,xbq,xag];done)
            | (simp [xbn,xbq,xag];omega)
            | exact xfd hr)
         obtain ⟨h',h,hb⟩:=key
         have el:xkw op zs.length=2+xda op zs.length:=by unfold xkw;rw [if_neg h1,if_pos (.inr h3)]
         have ec:xgd op sub pl fi ct zs (xjd (xcu ds))=[UInt8.ofNat op.toNat,UInt8.ofNat zs.length]++xbw op zs (xjd (xcu ds)):=by unfold xgd;rw [if_neg h1,if_pos (.inr h3)]
         rw [el,ec]
         simp only [xab] at h hb
         refine fin1 h (hb.trans ?_)
         simp only [AV.intOf,wln,xba]
         rfl
       · have t3:xae op (Int.ofNat 3)=false:=by rw [xaz];exact beq_eq_false_iff_ne.2 h3
         have el:xkw op zs.length=3:=by unfold xkw;rw [if_neg h1,if_neg (by omega),if_neg n4]
         have ec:xgd op sub pl fi ct zs (xjd (xcu ds))=[UInt8.ofNat op.toNat,UInt8.ofNat sub.toNat,UInt8.ofNat pl.toNat]:=by unfold xgd;rw [if_neg h1,if_neg (by omega),if_neg n4]
         rw [el,ec]
         have fin:[Blk.cells true 5 3 [AV.int IntKind.u8 op,AV.int IntKind.u8 sub,AV.int IntKind.u8 pl]]=[Blk.cells true 5 3 (ofBytes [UInt8.ofNat op.toNat,UInt8.ofNat sub.toNat,UInt8.ofNat pl.toNat])]:=by
          rw [u8b op (by omega) (by omega),u8b sub (by omega) (by omega),u8b pl (by omega) (by omega)];rfl
         by_cases h5:op=5
         · have t5:xae op (Int.ofNat 5)=true:=by rw [h5];rfl
           have key:=By_fffft op sub pl fi ct la zs.length (xbs .u32 zs) da ds.length (xcu ds)
           iterate 14
            replace key:=key (by
             (try simp only [xab,AV.intOf,t1,t2,t3,t5])
             first
              | done
              | with_reducible assumption
              | with_reducible rfl
              | with_reducible exact xao _
              | (rw [hr];rfl)
              | (rw [u8b op (by omega) (by omega)];exact xbc [_])
              | (rw [u8b op (by omega) (by omega),wln,lnb];exact xbc [_,_])
              | (simp [xbn,xbq,xag];done)
              | (simp [xbn,xbq,xag];omega)
              | exact xfd hr)
           obtain ⟨h',h,hb⟩:=key
           exact fin1 h (hb.trans fin)
         · have t5:xae op (Int.ofNat 5)=false:=by rw [xaz];exact beq_eq_false_iff_ne.2 h5
           by_cases h6:op=6
           · have t6:xae op (Int.ofNat 6)=true:=by rw [h6];rfl
             have key:=By_ffffft op sub pl fi ct la zs.length (xbs .u32 zs) da ds.length (xcu ds)
             iterate 15
              replace key:=key (by
               (try simp only [xab,AV.intOf,t1,t2,t3,t5,t6])
               first
                | done
                | with_reducible assumption
                | with_reducible rfl
                | with_reducible exact xao _
                | (rw [hr];rfl)
                | (rw [u8b op (by omega) (by omega)];exact xbc [_])
                | (rw [u8b op (by omega) (by omega),wln,lnb];exact xbc [_,_])
                | (simp [xbn,xbq,xag];done)
                | (simp [xbn,xbq,xag];omega)
                | exact xfd hr)
             obtain ⟨h',h,hb⟩:=key
             exact fin1 h (hb.trans fin)
           · have t6:xae op (Int.ofNat 6)=false:=by rw [xaz];exact beq_eq_false_iff_ne.2 h6
             have h7:op=7:=by omega
             have t7:xae op (Int.ofNat 7)=true:=by rw [h7];rfl
             have key:=By_fffffft op sub pl fi ct la zs.length (xbs .u32 zs) da ds.length (xcu ds)
             iterate 16
              replace key:=key (by
               (try simp only [xab,AV.intOf,t1,t2,t3,t5,t6,t7])
               first
                | done
                | with_reducible assumption
                | with_reducible rfl
                | with_reducible exact xao _
                | (rw [hr];rfl)
                | (rw [u8b op (by omega) (by omega)];exact xbc [_])
                | (rw [u8b op (by omega) (by omega),wln,lnb];exact xbc [_,_])
                | (simp [xbn,xbq,xag];done)
                | (simp [xbn,xbq,xag];omega)
                | exact xfd hr)
             obtain ⟨h',h,hb⟩:=key
             exact fin1 h (hb.trans fin)
 · cases hm
set_option maxHeartbeats 4000000 in
theorem bytes4_ok:xcf.Sound Try.prog tys 57 bytes4:=by
 refine xcf.soundZ (cxZ xbd) all10h (xcf.nb_ok fun us q v bs hm hc=>?_)
 split at hm
 · rename_i op sub pl fi ct la ln lv da dn dv
   injection hm with hm;injection hm with e1 hm;injection hm with e2 e3;subst e1;subst e2;subst e3
   simp only [xah] at hc
   obtain ⟨a1,a2,a3,a4,a5,a6,a7,c1,c2,c3,c4,c5,hr,n4,_⟩:=hc
   have b1:=of_decide_eq_true ((xax _ _).symm.trans a1)
   have b2:=of_decide_eq_true ((xax _ _).symm.trans a2)
   have b3:=of_decide_eq_true ((xax _ _).symm.trans a3)
   have b4:=of_decide_eq_true ((xax _ _).symm.trans a4)
   have b5:=of_decide_eq_true ((xax _ _).symm.trans a5)
   have b6:=of_decide_eq_true ((xax _ _).symm.trans a6)
   have b7:=of_decide_eq_true ((xat _ _).symm.trans a7)
   simp only [Int.ofNat_eq_natCast] at b1 b2 b3 b4 b5 b6 b7
   obtain ⟨zs,rfl⟩:=xcj.1 c1
   obtain ⟨ds,rfl⟩:=xgk.1 c3
   have c2:=xaj c2
   have c4:=xaj c4
   rw [xag] at c2
   rw [xay] at c4
   subst c2;subst c4
   have c5:=Nat.le_of_ble_eq_true c5
   have k1:isD (xcu ds)=true:=c3
   have k2:((xcu ds).length.beq ds.length)=true:=by rw [xay];exact Nat.beq_refl _
   have k3:(ds.length.ble 1099511627776)=true:=Nat.ble_eq_true_of_le (by omega)
   have k4:AV.plainL (xbs .u32 zs)=true:=xaw _ _
   have k5:AV.plainL (xcu ds)=true:=xbv _
   have n4:op=4:=by simp only [AV.intOf,xaz,xat,xax,beq_iff_eq,beq_eq_false_iff_ne,ne_eq,decide_eq_true_eq,decide_eq_false_iff_not,Bool.not_eq_true',Bool.not_eq_false',Bool.not_true,Bool.not_false,Bool.not_not,Int.ofNat_eq_natCast] at n4;exact n4
   subst n4
   refine ⟨fun b hb=>?_,?_⟩
   · have:b=.cells true 5 1 [.int .u8 (Int.ofNat 4)]:=by simpa using hb
     subst this
     rfl
   have t1:xae 4 (Int.ofNat 1)=false:=rfl
   have t2:xae 4 (Int.ofNat 2)=false:=rfl
   have t3:xae 4 (Int.ofNat 3)=false:=rfl
   have t5:xae 4 (Int.ofNat 5)=false:=rfl
   have t6:xae 4 (Int.ofNat 6)=false:=rfl
   have t7:xae 4 (Int.ofNat 7)=false:=rfl
   have key:=By_fffffff 4 sub pl fi ct la zs.length (xbs .u32 zs) da ds.length (xcu ds)
   iterate 16
    replace key:=key (by
     (try simp only [xab,AV.intOf,t1,t2,t3,t5,t6,t7])
     first
      | done
      | with_reducible assumption
      | with_reducible rfl
      | with_reducible exact xao _
      | (rw [hr];rfl)
      | (rw [u8b op (by omega) (by omega)];exact xbc [_])
      | (rw [u8b op (by omega) (by omega),wln,lnb];exact xbc [_,_])
      | (simp [xbn,xbq,xag];done)
      | (simp [xbn,xbq,xag];omega)
      | exact xfd hr)
   obtain ⟨h',h,hb⟩:=key
   exact fin1 h hb
 · cases hm
def refF:FRowM:=fun us=>match us with
 | [.agg [.int .u8 op, .int .u8 sub, .int .u8 pl, .int .u32 fi, .int .u8 ct, .fsl la ln lv, .fsl da dn dv]]=>some ([xbr (Int.ofNat 0) fi,xak fi (Int.ofNat 4294967296),isU .u32 lv,Nat.beq lv.length ln,Nat.ble ln 900,isD dv,Nat.beq dv.length dn,Nat.ble dn 900],
  .agg [.int .u8 op, .int .u8 sub, .int .u8 pl, .int .u64 fi, .int .u8 ct, .fsl (kept (Nat.beq ln 0)) ln (kept (xbs .u64 (xbt lv))), .fsl (kept (Nat.beq dn 0)) dn (kept (encS (xjd dv)))])
 | _=>none
theorem szU:xcc xpz 22=1:=by kernel_rfl
theorem szS:xcc xpz 9=1:=by kernel_rfl
theorem xdc (cs:List AV) (n:Nat) (h:cs.length=n):xan cs 0 n=cs:=by
 unfold xan;rw [List.drop_zero,List.take_of_length_le (by omega)]
theorem xgc (k:IntKind) (l:List UInt32):xhu (xbs k l)=true:=by
 rw [xie];intro v hv;obtain ⟨b,_,rfl⟩:=List.mem_map.1 hv;rfl
theorem xgg (l:List (List UInt8)):xhu (encS l)=true:=by
 rw [xie];intro v hv;obtain ⟨b,_,rfl⟩:=List.mem_map.1 hv;rfl
set_option maxHeartbeats 4000000 in
theorem refF_ok:FSum.Sound Try.prog tys 58 refF:=by
 refine FSum.soundZ (cxZ xbd) all10h (fun us c v hm hc=>?_)
 unfold refF at hm
 split at hm
 · rename_i op sub pl fi ct la ln lv da dn dv
   injection hm with hm;injection hm with e1 e2;subst e1;subst e2
   simp only [xah] at hc
   obtain ⟨a6,a7,c1,c2,c6,c3,c4,c5,_⟩:=hc
   have b6:=of_decide_eq_true ((xax _ _).symm.trans a6)
   have b7:=of_decide_eq_true ((xat _ _).symm.trans a7)
   simp only [Int.ofNat_eq_natCast] at b6 b7
   obtain ⟨zs,rfl⟩:=xcj.1 c1
   obtain ⟨ds,rfl⟩:=xgk.1 c3
   have c2:=xaj c2
   have c4:=xaj c4
   rw [xag] at c2
   rw [xay] at c4
   subst c2;subst c4
   have c5:=Nat.le_of_ble_eq_true c5
   have c6:=Nat.le_of_ble_eq_true c6
   have k1:isD (xcu ds)=true:=c3
   have k2:((xcu ds).length.beq ds.length)=true:=by rw [xay];exact Nat.beq_refl _
   have k4:AV.plainL (xbs .u32 zs)=true:=xaw _ _
   have k5:AV.plainL (xcu ds)=true:=xbv _
   have k6:AV.plainL (xbs .u64 zs)=true:=xaw _ _
   have k7:∀ l,AV.plainL (encS l)=true:=fun l=>xbm _
   have wf:xaf IntKind.u64 fi=fi:=by
    obtain ⟨n,rfl⟩:∃ n:Nat,fi=(n:Int):=⟨fi.toNat,by omega⟩
    exact xbe .u64 n (by show n < 18446744073709551616;omega)
   have ed:xjd (xcu ds)=ds.map Prod.snd:=by unfold xjd;rw [xcw]
   have l1:(xbs .u64 zs).length=zs.length*1:=by rw [xag,Nat.mul_one]
   have l2:(encS (ds.map Prod.snd)).length=ds.length*1:=by rw [xaq,List.length_map,Nat.mul_one]
   simp only [xab,xba,ed]
   by_cases h1:zs.length=0
   · have t1:zs.length.beq 0=true:=by rw [h1];rfl
     have y1:zs=[]:=List.eq_nil_of_length_eq_zero h1
     by_cases h2:ds.length=0
     · have t2:ds.length.beq 0=true:=by rw [h2];rfl
       have y2:ds=[]:=List.eq_nil_of_length_eq_zero h2
       have key:=Rf_tt op sub pl fi ct la zs.length (xbs .u32 zs) da ds.length (xcu ds)
       iterate 4
        replace key:=key (by
         (try simp only [xab,AV.intOf,xba,xcw,t1,t2])
         first
          | done
          | with_reducible assumption
          | with_reducible rfl
          | exact k7 _
          | (simp [xbn,xbq,xag];done)
          | (simp [xbn,xbq,xag];omega))
       obtain ⟨h',h,hb⟩:=key
       simp only [xab,AV.intOf,wf,xba,xcw,List.map_cons,List.map_nil] at h hb
       refine ⟨60,_,h',([]),h,?_,?_⟩
       · simp only [zQ,zS,zL,z1,xdl]
         (try simp only [szU,szS,Nat.mul_one,List.nil_append,List.append_nil,List.cons_append])
         simp only [t1,t2]
         subst y1;subst y2;try rfl
       · first
          | rfl
          | (simp only [szU,szS,Nat.mul_one,Nat.zero_add,xah,xgc,xgg,xbq,Nat.le_refl,decide_true,true_and,and_true];rfl)
     · have t2:ds.length.beq 0=false:=by rw [xbn];exact decide_eq_false h2
       have key:=Rf_tf op sub pl fi ct la zs.length (xbs .u32 zs) da ds.length (xcu ds)
       iterate 10
        replace key:=key (by
         (try simp only [xab,AV.intOf,xba,xcw,t1,t2])
         first
          | done
          | with_reducible assumption
          | with_reducible rfl
          | exact k7 _
          | (simp [xbn,xbq,xag];done)
          | (simp [xbn,xbq,xag];omega))
       obtain ⟨h',h,hb⟩:=key
       simp only [xab,AV.intOf,wf,xba,xcw,List.map_cons,List.map_nil] at h hb
       injection hb with g2 _
       refine ⟨60,_,h',(true::Nat.ble (0+ds.length*xcc xpz 9) ds.length::xhu (encS (ds.map Prod.snd))::[]),h,?_,?_⟩
       · simp only [zQ,zS,zL,z1,xdl,g2]
         (try simp only [szU,szS,Nat.mul_one,List.nil_append,List.append_nil,List.cons_append])
         rw [xdc (encS (ds.map Prod.snd)) ds.length (by rw [xaq,List.length_map])]
         simp only [t1,t2]
         subst y1;try rfl
       · first
          | rfl
          | (simp only [szU,szS,Nat.mul_one,Nat.zero_add,xah,xgc,xgg,xbq,Nat.le_refl,decide_true,true_and,and_true];rfl)
   · have t1:zs.length.beq 0=false:=by rw [xbn];exact decide_eq_false h1
     by_cases h2:ds.length=0
     · have t2:ds.length.beq 0=true:=by rw [h2];rfl
       have y2:ds=[]:=List.eq_nil_of_length_eq_zero h2
       have key:=Rf_ft op sub pl fi ct la zs.length (xbs .u32 zs) da ds.length (xcu ds)
       iterate 10
        replace key:=key (by
         (try simp only [xab,AV.intOf,xba,xcw,t1,t2])
         first
          | done
          | with_reducible assumption
          | with_reducible rfl
          | exact k7 _
          | (simp [xbn,xbq,xag];done)
          | (simp [xbn,xbq,xag];omega))
       obtain ⟨h',h,hb⟩:=key
       simp only [xab,AV.intOf,wf,xba,xcw,List.map_cons,List.map_nil] at h hb
       injection hb with g1 _
       refine ⟨60,_,h',(true::Nat.ble (0+zs.length*xcc xpz 22) zs.length::xhu (xbs .u64 zs)::[]),h,?_,?_⟩
       · simp only [zQ,zS,zL,z1,xdl,g1]
         (try simp only [szU,szS,Nat.mul_one,List.nil_append,List.append_nil,List.cons_append])
         rw [xdc (xbs .u64 zs) zs.length (xag _ _)]
         simp only [t1,t2]
         subst y2;try rfl
       · first
          | rfl
          | (simp only [szU,szS,Nat.mul_one,Nat.zero_add,xah,xgc,xgg,xbq,Nat.le_refl,decide_true,true_and,and_true];rfl)
     · have t2:ds.length.beq 0=false:=by rw [xbn];exact decide_eq_false h2
       have key:=Rf_ff op sub pl fi ct la zs.length (xbs .u32 zs) da ds.length (xcu ds)
       iterate 16
        replace key:=key (by
         (try simp only [xab,AV.intOf,xba,xcw,t1,t2])
         first
          | done
          | with_reducible assumption
          | with_reducible rfl
          | exact k7 _
          | (simp [xbn,xbq,xag];done)
          | (simp [xbn,xbq,xag];omega))
       obtain ⟨h',h,hb⟩:=key
       simp only [xab,AV.intOf,wf,xba,xcw,List.map_cons,List.map_nil] at h hb
       injection hb with g1 hb;injection hb with g2 _
       refine ⟨60,_,h',(true::Nat.ble (0+zs.length*xcc xpz 22) zs.length::xhu (xbs .u64 zs)::true::Nat.ble (0+ds.length*xcc xpz 9) ds.length::xhu (encS (ds.map Prod.snd))::[]),h,?_,?_⟩
       · simp only [zQ,zS,zL,z1,xdl,g1,g2]
         (try simp only [szU,szS,Nat.mul_one,List.nil_append,List.append_nil,List.cons_append])
         rw [xdc (xbs .u64 zs) zs.length (xag _ _)]
         rw [xdc (encS (ds.map Prod.snd)) ds.length (by rw [xaq,List.length_map])]
         simp only [t1,t2]
         try rfl
       · first
          | rfl
          | (simp only [szU,szS,Nat.mul_one,Nat.zero_add,xah,xgc,xgg,xbq,Nat.le_refl,decide_true,true_and,and_true];rfl)
 · cases hm
end Go.Proofs.Ytecncappdnhbaaa
end
end

section
noncomputable section
namespace Go.Proofs.Ytecncappdnhbaaa
open Go.Ab.M Go.Ab Go
def K10e:xem:={ }
theorem K10e_ok:KOK Try.prog tys K10e:=⟨trivial,trivial,trivial,trivial,trivial⟩
abbrev C10e:=xdt tys fns K10e
theorem all10e:xcy Try.prog C10e:=xdw K10e_ok
theorem cl (len:Nat) (cs:List AV) (h0:(cs.length.beq (len.mul 1))=true) (h1:(len.beq 0)=false) (h2:(xch 1 0 len)=true) (h3:(Nat.ble 1 (0+len))=true) :
 ∃ h',xbl C10e 60 (Tgt.fn 67) [.fsl false len cs] H0=some (AV.slice (some (1,0)) (0+len) none,h')∧[1].map h'.get=[.cells true 5 ([]++cs).length ([]++cs)] :=
 xaa (q:=qNs [4,0,1,0,0,3]) (c:=(cnT::cnF::cnT::cnT::[])) (by kernel_rfl) ⟨h0,h1,h2,h3,trivial⟩
theorem sz5:xcc C10e 5=1:=by kernel_rfl
def cloneF:FRowM:=fun us=>match us with
 | [.fsl false len cs]=>some ([u8L cs,Nat.beq cs.length len,Nat.ble 1 len,Nat.ble len 1000], .fsl false len cs)
 | _=>none
theorem cloneF_ok:FSum.Sound Try.prog tys 67 cloneF:=by
 refine FSum.soundZ (cxZ xbd) all10e (fun us c v hm hc=>?_)
 unfold cloneF at hm
 split at hm
 · rename_i len cs
   injection hm with hm;injection hm with e1 e2;subst e1;subst e2
   simp only [xah] at hc
   obtain ⟨c1,c2,c3,c4,_⟩:=hc
   obtain ⟨b,rfl⟩:=xdr.1 c1
   have c2:=xaj c2
   rw [xad] at c2
   subst c2
   have c3:=Nat.le_of_ble_eq_true c3
   have c4:=Nat.le_of_ble_eq_true c4
   obtain ⟨h',h,hb⟩:=cl b.length (ofBytes b) (by rw [xad,xbn];exact decide_eq_true (by show b.length=b.length*1;omega)) (by rw [xbn];exact decide_eq_false (by omega)) (xfb (by omega) (by omega)) (by rw [xbq];exact decide_eq_true (by omega))
   rw [List.nil_append,xad,Nat.zero_add] at *
   simp only [List.map_cons,List.map_nil,List.nil_append,xad] at hb
   injection hb with g1 _
   refine ⟨60,_,h',(true::Nat.ble (0+b.length*xcc C10e 5) b.length::xhu (ofBytes b)::[]),h,?_,?_⟩
   · simp only [zQ,zS,Ab.z1,g1]
     simp only [sz5,Nat.mul_one]
     rw [xdc (ofBytes b) b.length (xad _)]
   · simp only [sz5,Nat.mul_one,Nat.zero_add,xah,xhq,xbq,Nat.le_refl,decide_true,true_and];rfl
 · cases hm
def K10l:xem:={ f:=[(67, .leaf cloneF)] }
theorem K10l_ok:KOK Try.prog tys K10l:=⟨trivial,⟨cloneF_ok,trivial⟩,trivial,trivial,trivial⟩
abbrev C10l:=xdt tys fns K10l
theorem all10l:xcy Try.prog C10l:=xdw K10l_ok
end Go.Proofs.Ytecncappdnhbaaa
end
end

section
noncomputable section
namespace Go.Ab.M
def tkB (n:Nat) (r:List UInt8):List UInt8:=if n ≤ r.length then r.take n else List.replicate n 0
def rsB (n:Nat) (r:List UInt8):List UInt8:=if n ≤ r.length then r.drop n else r
def seg (w:List UInt8) (off len:Nat):List UInt8:=(w.drop off).take len
def tkO (n off len:Nat):Nat:=if n ≤ len then off+n else off
def tkL (n len:Nat):Nat:=if n ≤ len then len - n else len
def tkC (n len c:Nat):Nat:=if n ≤ len then c - n else c
end Go.Ab.M
namespace Go.Ab
open M
theorem reps_zero (n:Nat):xnf n [AV.int IntKind.u8 (Int.ofNat 0)]=ofBytes (List.replicate n 0):=by
 induction n with
 | zero=>rfl
 | succ n ih =>
  show [AV.int IntKind.u8 (Int.ofNat 0)]++xnf n _=_
  rw [ih];rfl
theorem seg_len (w:List UInt8) (off len:Nat) (h:off+len ≤ w.length):(seg w off len).length=len:=by
 unfold seg;rw [List.length_take,List.length_drop];omega
theorem xfv (n:Nat) (r:List UInt8):(tkB n r).length=n:=by
 unfold tkB;split
 · rw [List.length_take];omega
 · rw [List.length_replicate]
theorem tkB_seg (w:List UInt8) (n off len:Nat) (h:off+len ≤ w.length) (hn:n ≤ len):tkB n (seg w off len)=(w.drop off).take n:=by
 unfold tkB;rw [seg_len w off len h,if_pos hn]
 unfold seg;rw [List.take_take];congr 1;omega
end Go.Ab
namespace Go.Proofs.Ytecncappdnhbaaa
open Go.Ab.M Go.Ab Go
theorem tkN (off len N n:Nat) (cs:List AV) (ok:Bool) (h0:(xak (Int.ofNat len) (Int.ofNat n))=false) (h1:((Int.ofNat n).toNat.ble len)=true) (h2:((off+0+((Int.ofNat n).toNat - 0)*1).ble N)=true) (h3:(AV.plainL cs)=true) (h4:(u8L (xan cs (off+0) (((Int.ofNat n).toNat - 0)*1)))=true) (h5:((xan cs (off+0) (((Int.ofNat n).toNat - 0)*1)).length.beq ((Int.ofNat n).toNat - 0))=true) (h6:(Nat.ble 1 ((Int.ofNat n).toNat - 0))=true) (h7:(((Int.ofNat n).toNat - 0).ble 1000)=true) (h8:(AV.plainL (xan cs (off+0) (((Int.ofNat n).toNat - 0)*1)))=true) :
 ZEnd (C10l) [] (Tgt.fn 98) [.ptr (some (0,0)), .int .i64 (Int.ofNat n)] [.cells true 150 2 [.slice (some (1,off)) len none, .bool ok], .cells true 5 N cs] (AV.fsl false ((Int.ofNat n).toNat - 0) (xan cs (off+0) (((Int.ofNat n).toNat - 0)*1))) [.cells true 150 2 [.slice (some (1,off+(Int.ofNat n).toNat*1)) (len - (Int.ofNat n).toNat) none, .bool ok], .cells true 5 N cs] :=
 xhi (f:=60) (ks:=[0,1]) (q:=qNs [5,1,6,0,6,0,5,0,0,0,0,0,0]) (c:=(cnF::cnT::cnT::cnT::cnT::cnT::cnT::cnT::cnT::[])) (cq:=[AV.plainL (xan cs (off+0) (((Int.ofNat n).toNat - 0)*1)),true,true,true,AV.plainL cs]) (by kernel_rfl) ⟨h0,h1,h1,h2,h3,h4,h5,h6,h7,trivial⟩ (xci ⟨h8,rfl,rfl,rfl,h3,trivial⟩) (by kernel_rfl) (by kernel_rfl)
theorem tkS (off len N n c:Nat) (cs:List AV) (ok:Bool) (h0:(xak (Int.ofNat len) (Int.ofNat n))=false) (h1:((Int.ofNat n).toNat.ble c)=true) (h2:((Int.ofNat n).toNat.ble len)=true) (h3:((off+0+((Int.ofNat n).toNat - 0)*1).ble N)=true) (h4:(AV.plainL cs)=true) (h5:(u8L (xan cs (off+0) (((Int.ofNat n).toNat - 0)*1)))=true) (h6:((xan cs (off+0) (((Int.ofNat n).toNat - 0)*1)).length.beq ((Int.ofNat n).toNat - 0))=true) (h7:(Nat.ble 1 ((Int.ofNat n).toNat - 0))=true) (h8:(((Int.ofNat n).toNat - 0).ble 1000)=true) (h9:(AV.plainL (xan cs (off+0) (((Int.ofNat n).toNat - 0)*1)))=true) :
 ZEnd (C10l) [] (Tgt.fn 98) [.ptr (some (0,0)), .int .i64 (Int.ofNat n)] [.cells true 150 2 [.slice (some (1,off)) len (some c), .bool ok], .cells true 5 N cs] (AV.fsl false ((Int.ofNat n).toNat - 0) (xan cs (off+0) (((Int.ofNat n).toNat - 0)*1))) [.cells true 150 2 [.slice (some (1,off+(Int.ofNat n).toNat*1)) (len - (Int.ofNat n).toNat) (some (c - (Int.ofNat n).toNat)), .bool ok], .cells true 5 N cs] :=
 xhi (f:=60) (ks:=[0,1]) (q:=qNs [5,1,6,0,6,0,5,0,0,0,0,0,0]) (c:=(cnF::cnT::cnT::cnT::cnT::cnT::cnT::cnT::cnT::[])) (cq:=[AV.plainL (xan cs (off+0) (((Int.ofNat n).toNat - 0)*1)),true,true,true,AV.plainL cs]) (by kernel_rfl) ⟨h0,h1,h2,h3,h4,h5,h6,h7,h8,trivial⟩ (xci ⟨h9,rfl,rfl,rfl,h4,trivial⟩) (by kernel_rfl) (by kernel_rfl)
theorem tbN (off len N n:Nat) (cs:List AV) (ok:Bool) (h0:(xak (Int.ofNat len) (Int.ofNat n))=true) (h1:(xbr (Int.ofNat n) (Int.ofNat n))=true) (h2:(xak (Int.ofNat n) (Int.ofNat 9223372036854775808))=true) (h3:(xbr (Int.ofNat 1*Int.ofNat n) (Int.ofNat 281474976710656))=true) :
 ∃ h',xbl C10l 60 (Tgt.fn 98) [AV.ptr (some (0,0)),AV.int IntKind.i64 (Int.ofNat n)] (mkL [Blk.cells true 150 2 [AV.slice (some (1,off)) len none,AV.bool ok],Blk.cells true 5 N cs])=some (AV.slice (some (2,0)) (Int.ofNat n).toNat (some (Int.ofNat n).toNat),h')∧[0,1,2].map h'.get=[Blk.cells true 150 2 [AV.slice (some (1,off)) len none,AV.bool false],Blk.cells true 5 N cs,Blk.cells true 5 (xnf (Int.ofNat n).toNat [AV.int IntKind.u8 (Int.ofNat 0)]).length (xnf (Int.ofNat n).toNat [AV.int IntKind.u8 (Int.ofNat 0)])] :=
 xaa (q:=qNs [5,0,6,0,0,0]) (c:=(cnT::cnT::cnT::cnT::[])) (by kernel_rfl) ⟨h0,h1,h2,h3,trivial⟩
theorem tbS (off len N n c:Nat) (cs:List AV) (ok:Bool) (h0:(xak (Int.ofNat len) (Int.ofNat n))=true) (h1:(xbr (Int.ofNat n) (Int.ofNat n))=true) (h2:(xak (Int.ofNat n) (Int.ofNat 9223372036854775808))=true) (h3:(xbr (Int.ofNat 1*Int.ofNat n) (Int.ofNat 281474976710656))=true) :
 ∃ h',xbl C10l 60 (Tgt.fn 98) [AV.ptr (some (0,0)),AV.int IntKind.i64 (Int.ofNat n)] (mkL [Blk.cells true 150 2 [AV.slice (some (1,off)) len (some c),AV.bool ok],Blk.cells true 5 N cs])=some (AV.slice (some (2,0)) (Int.ofNat n).toNat (some (Int.ofNat n).toNat),h')∧[0,1,2].map h'.get=[Blk.cells true 150 2 [AV.slice (some (1,off)) len (some c),AV.bool false],Blk.cells true 5 N cs,Blk.cells true 5 (xnf (Int.ofNat n).toNat [AV.int IntKind.u8 (Int.ofNat 0)]).length (xnf (Int.ofNat n).toNat [AV.int IntKind.u8 (Int.ofNat 0)])] :=
 xaa (q:=qNs [5,0,6,0,0,0]) (c:=(cnT::cnT::cnT::cnT::[])) (by kernel_rfl) ⟨h0,h1,h2,h3,trivial⟩
def takeZ:xdm:=⟨[],fun us bs=>match us,bs with
 | [.ptr (some (0,0)), .int .i64 (.ofNat n)],[.cells true 150 2 [.slice (some (1,off)) len none, .bool ok], .cells true 5 N cs]=>some ([u8L cs,Nat.beq cs.length N,Nat.ble (off+len) N,Nat.ble 1 n,Nat.ble n 1000], .fsl false n (kept (ofBytes (tkB n (seg (xap cs) off len)))),[.cells true 150 2 [.slice (some (1,kept (tkO n off len))) (kept (tkL n len)) none, .bool (kept (ok && Nat.ble n len))], .cells true 5 N cs])
 | [.ptr (some (0,0)), .int .i64 (.ofNat n)],[.cells true 150 2 [.slice (some (1,off)) len (some c), .bool ok], .cells true 5 N cs]=>some ([u8L cs,Nat.beq cs.length N,Nat.ble (off+len) N,Nat.ble 1 n,Nat.ble n 1000,Nat.ble len c], .fsl false n (kept (ofBytes (tkB n (seg (xap cs) off len)))),[.cells true 150 2 [.slice (some (1,kept (tkO n off len))) (kept (tkL n len)) (some (kept (tkC n len c))), .bool (kept (ok && Nat.ble n len))], .cells true 5 N cs])
 | _,_=>none⟩
def takeNy:xdm:=⟨[],fun us bs=>match us,bs with
 | [.ptr (some (0,0)), .int .i64 (.ofNat n)],[.cells true 150 2 [.slice (some (1,off)) len none, .bool ok], .cells true 5 N cs]=>if Nat.ble n len then some ([u8L cs,Nat.beq cs.length N,Nat.ble (off+len) N,Nat.ble 1 n,Nat.ble n 1000], .fsl false n (kept (ofBytes (tkB n (seg (xap cs) off len)))),[.cells true 150 2 [.slice (some (1,kept (tkO n off len))) (kept (tkL n len)) none, .bool (kept (ok && Nat.ble n len))], .cells true 5 N cs]) else none
 | _,_=>none⟩
def takeNn:xdm:=⟨[],fun us bs=>match us,bs with
 | [.ptr (some (0,0)), .int .i64 (.ofNat n)],[.cells true 150 2 [.slice (some (1,off)) len none, .bool ok], .cells true 5 N cs]=>if !Nat.ble n len then some ([u8L cs,Nat.beq cs.length N,Nat.ble (off+len) N,Nat.ble 1 n,Nat.ble n 1000], .fsl false n (kept (ofBytes (tkB n (seg (xap cs) off len)))),[.cells true 150 2 [.slice (some (1,kept (tkO n off len))) (kept (tkL n len)) none, .bool (kept (ok && Nat.ble n len))], .cells true 5 N cs]) else none
 | _,_=>none⟩
def takeSy:xdm:=⟨[],fun us bs=>match us,bs with
 | [.ptr (some (0,0)), .int .i64 (.ofNat n)],[.cells true 150 2 [.slice (some (1,off)) len (some c), .bool ok], .cells true 5 N cs]=>if Nat.ble n len then some ([u8L cs,Nat.beq cs.length N,Nat.ble (off+len) N,Nat.ble 1 n,Nat.ble n 1000,Nat.ble len c], .fsl false n (kept (ofBytes (tkB n (seg (xap cs) off len)))),[.cells true 150 2 [.slice (some (1,kept (tkO n off len))) (kept (tkL n len)) (some (kept (tkC n len c))), .bool (kept (ok && Nat.ble n len))], .cells true 5 N cs]) else none
 | _,_=>none⟩
def takeSn:xdm:=⟨[],fun us bs=>match us,bs with
 | [.ptr (some (0,0)), .int .i64 (.ofNat n)],[.cells true 150 2 [.slice (some (1,off)) len (some c), .bool ok], .cells true 5 N cs]=>if !Nat.ble n len then some ([u8L cs,Nat.beq cs.length N,Nat.ble (off+len) N,Nat.ble 1 n,Nat.ble n 1000,Nat.ble len c], .fsl false n (kept (ofBytes (tkB n (seg (xap cs) off len)))),[.cells true 150 2 [.slice (some (1,kept (tkO n off len))) (kept (tkL n len)) (some (kept (tkC n len c))), .bool (kept (ok && Nat.ble n len))], .cells true 5 N cs]) else none
 | _,_=>none⟩
theorem takeNy_ok:xdm.Sound Try.prog tys (xbz tys) 98 takeNy:=by
 refine xdm.soundZ (cxZ xbd) all10l (xdm.ok_of (cx:=C10l) (g:=98) (s:=takeNy) fun us bs c v bs' hm hc hin=>?_)
 unfold takeNy at hm
 simp only at hm
 split at hm
 · rename_i n off len ok N cs
   by_cases ht:(Nat.ble n len)=true
   case neg=>rw [if_neg ht] at hm;cases hm
   rw [if_pos ht] at hm
   injection hm with hm;injection hm with e1 hm;injection hm with e2 e3
   simp only [xab] at e2 e3
   subst e1;subst e2;subst e3
   simp only [xah] at hc
   obtain ⟨c1,c2,c3,c4,c5,_⟩:=hc
   obtain ⟨w,rfl⟩:=xdr.1 c1
   have c2:=xaj c2
   rw [xad] at c2
   subst c2
   have c3:=Nat.le_of_ble_eq_true c3
   have c4:=Nat.le_of_ble_eq_true c4
   have c5:=Nat.le_of_ble_eq_true c5
   rw [xal]
   have hn:=Nat.le_of_ble_eq_true ht
   have rc:xan (ofBytes w) off n=ofBytes (tkB n (seg w off len)):=by
    rw [xhd,tkB_seg w n off len c3 hn]
   have z0:(Int.ofNat n).toNat=n:=rfl
   have key:=tkN off len w.length n (ofBytes w) ok
   iterate 9
    replace key:=key (by
     (try simp only [z0,Nat.add_zero,Nat.sub_zero,Nat.mul_one,rc])
     first
      | done
      | with_reducible exact xao _
      | with_reducible exact xbc _
      | (rw [xat];exact decide_eq_false (by show ¬ (len:Int) < (n:Int);omega))
      | (rw [xbq];exact decide_eq_true (by omega))
      | (rw [xad,xfv,xbn];exact decide_eq_true rfl))
   simp only [z0,Nat.add_zero,Nat.sub_zero,Nat.mul_one,rc] at key
   have eo:tkO n off len=off+n:=by unfold tkO;rw [if_pos hn]
   have el:tkL n len=len - n:=by unfold tkL;rw [if_pos hn]
   rw [eo,el,ht,Bool.and_true]
   exact key
 · cases hm
theorem takeNn_ok:xdm.Sound Try.prog tys (xbz tys) 98 takeNn:=by
 refine xdm.soundFZ (cxZ xbd) all10l (fun us bs c v bs' hm hc hin=>?_)
 unfold takeNn at hm
 simp only at hm
 split at hm
 · rename_i n off len ok N cs
   by_cases ht:(!Nat.ble n len)=true
   case neg=>rw [if_neg ht] at hm;cases hm
   rw [if_pos ht] at hm
   injection hm with hm;injection hm with e1 hm;injection hm with e2 e3
   simp only [xab] at e2 e3
   subst e1;subst e2;subst e3
   simp only [xah] at hc
   obtain ⟨c1,c2,c3,c4,c5,_⟩:=hc
   obtain ⟨w,rfl⟩:=xdr.1 c1
   have c2:=xaj c2
   rw [xad] at c2
   subst c2
   have c3:=Nat.le_of_ble_eq_true c3
   have c4:=Nat.le_of_ble_eq_true c4
   have c5:=Nat.le_of_ble_eq_true c5
   rw [xal]
   have ht0:Nat.ble n len=false:=by simpa using ht
   have hn:¬ n ≤ len:=fun h=>by rw [Nat.ble_eq_true_of_le h] at ht0;cases ht0
   have z0:(Int.ofNat n).toNat=n:=rfl
   obtain ⟨h',h,hb⟩:=tbN off len w.length n (ofBytes w) ok (by rw [xat];exact decide_eq_true (by show (len:Int) < (n:Int);omega)) (by rw [xax];exact decide_eq_true (Int.le_refl _)) (by rw [xat];exact decide_eq_true (by show (n:Int) < 9223372036854775808;omega)) (by rw [xax];exact decide_eq_true (by show (1:Int)*(n:Int) ≤ 281474976710656;omega))
   simp only [z0,reps_zero,xad,List.length_replicate] at h hb
   injection hb with g0 hb;injection hb with g1 hb;injection hb with g2 _
   have eo:tkO n off len=off:=by unfold tkO;rw [if_neg hn]
   have el:tkL n len=len:=by unfold tkL;rw [if_neg hn]
   have et:tkB n (seg w off len)=List.replicate n 0:=by unfold tkB;rw [seg_len w off len c3,if_neg hn]
   rw [eo,el,et,ht0,Bool.and_false]
   refine ⟨60,h',[0,1],2,0,n,some n,5,n,ofBytes (List.replicate n 0),h,rfl,fun j hj=>?_,by simp,g2,?_,xhq _,?_,?_,?_,?_⟩
   · match j,hj with
     | 0,_=>rfl
     | 1,_=>rfl
   · rw [show xcc C10l 5=1 by kernel_rfl];omega
   · rw [show xcc C10l 5=1 by kernel_rfl,Nat.mul_one,xdc _ n (by rw [xad,List.length_replicate])]
   · intro j hj
     rcases List.mem_cons.1 hj with rfl | hj
     · rw [g0];rfl
     · have:j=1:=by simpa using hj
       subst this;rw [g1];rfl
   · show _=[(h'.get 0).q _ _ _,(h'.get 1).q _ _ _]
     rw [g0,g1]
     rfl
   · show xav ((h'.get 0).c _ _ _++((h'.get 1).c _ _ _++[]))=true
     rw [g0,g1]
     show xav ([true,true,true]++((true::[AV.plainL (ofBytes w)])++[]))=true
     rw [xao];rfl
 · cases hm
theorem takeSy_ok:xdm.Sound Try.prog tys (xbz tys) 98 takeSy:=by
 refine xdm.soundZ (cxZ xbd) all10l (xdm.ok_of (cx:=C10l) (g:=98) (s:=takeSy) fun us bs c v bs' hm hc hin=>?_)
 unfold takeSy at hm
 simp only at hm
 split at hm
 · rename_i n off len c ok N cs
   by_cases ht:(Nat.ble n len)=true
   case neg=>rw [if_neg ht] at hm;cases hm
   rw [if_pos ht] at hm
   injection hm with hm;injection hm with e1 hm;injection hm with e2 e3
   simp only [xab] at e2 e3
   subst e1;subst e2;subst e3
   simp only [xah] at hc
   obtain ⟨c1,c2,c3,c4,c5,c6,_⟩:=hc
   obtain ⟨w,rfl⟩:=xdr.1 c1
   have c2:=xaj c2
   rw [xad] at c2
   subst c2
   have c3:=Nat.le_of_ble_eq_true c3
   have c4:=Nat.le_of_ble_eq_true c4
   have c5:=Nat.le_of_ble_eq_true c5
   have c6:=Nat.le_of_ble_eq_true c6
   rw [xal]
   have hn:=Nat.le_of_ble_eq_true ht
   have rc:xan (ofBytes w) off n=ofBytes (tkB n (seg w off len)):=by
    rw [xhd,tkB_seg w n off len c3 hn]
   have z0:(Int.ofNat n).toNat=n:=rfl
   have key:=tkS off len w.length n c (ofBytes w) ok
   iterate 10
    replace key:=key (by
     (try simp only [z0,Nat.add_zero,Nat.sub_zero,Nat.mul_one,rc])
     first
      | done
      | with_reducible exact xao _
      | with_reducible exact xbc _
      | (rw [xat];exact decide_eq_false (by show ¬ (len:Int) < (n:Int);omega))
      | (rw [xbq];exact decide_eq_true (by omega))
      | (rw [xad,xfv,xbn];exact decide_eq_true rfl))
   simp only [z0,Nat.add_zero,Nat.sub_zero,Nat.mul_one,rc] at key
   have eo:tkO n off len=off+n:=by unfold tkO;rw [if_pos hn]
   have el:tkL n len=len - n:=by unfold tkL;rw [if_pos hn]
   have ec:tkC n len c=c - n:=by unfold tkC;rw [if_pos hn]
   rw [eo,el,ec,ht,Bool.and_true]
   exact key
 · cases hm
theorem takeSn_ok:xdm.Sound Try.prog tys (xbz tys) 98 takeSn:=by
 refine xdm.soundFZ (cxZ xbd) all10l (fun us bs c v bs' hm hc hin=>?_)
 unfold takeSn at hm
 simp only at hm
 split at hm
 · rename_i n off len c ok N cs
   by_cases ht:(!Nat.ble n len)=true
   case neg=>rw [if_neg ht] at hm;cases hm
   rw [if_pos ht] at hm
   injection hm with hm;injection hm with e1 hm;injection hm with e2 e3
   simp only [xab] at e2 e3
   subst e1;subst e2;subst e3
   simp only [xah] at hc
   obtain ⟨c1,c2,c3,c4,c5,c6,_⟩:=hc
   obtain ⟨w,rfl⟩:=xdr.1 c1
   have c2:=xaj c2
   rw [xad] at c2
   subst c2
   have c3:=Nat.le_of_ble_eq_true c3
   have c4:=Nat.le_of_ble_eq_true c4
   have c5:=Nat.le_of_ble_eq_true c5
   have c6:=Nat.le_of_ble_eq_true c6
   rw [xal]
   have ht0:Nat.ble n len=false:=by simpa using ht
   have hn:¬ n ≤ len:=fun h=>by rw [Nat.ble_eq_true_of_le h] at ht0;cases ht0
   have z0:(Int.ofNat n).toNat=n:=rfl
   obtain ⟨h',h,hb⟩:=tbS off len w.length n c (ofBytes w) ok (by rw [xat];exact decide_eq_true (by show (len:Int) < (n:Int);omega)) (by rw [xax];exact decide_eq_true (Int.le_refl _)) (by rw [xat];exact decide_eq_true (by show (n:Int) < 9223372036854775808;omega)) (by rw [xax];exact decide_eq_true (by show (1:Int)*(n:Int) ≤ 281474976710656;omega))
   simp only [z0,reps_zero,xad,List.length_replicate] at h hb
   injection hb with g0 hb;injection hb with g1 hb;injection hb with g2 _
   have eo:tkO n off len=off:=by unfold tkO;rw [if_neg hn]
   have el:tkL n len=len:=by unfold tkL;rw [if_neg hn]
   have et:tkB n (seg w off len)=List.replicate n 0:=by unfold tkB;rw [seg_len w off len c3,if_neg hn]
   have ec:tkC n len c=c:=by unfold tkC;rw [if_neg hn]
   rw [eo,el,ec,et,ht0,Bool.and_false]
   refine ⟨60,h',[0,1],2,0,n,some n,5,n,ofBytes (List.replicate n 0),h,rfl,fun j hj=>?_,by simp,g2,?_,xhq _,?_,?_,?_,?_⟩
   · match j,hj with
     | 0,_=>rfl
     | 1,_=>rfl
   · rw [show xcc C10l 5=1 by kernel_rfl];omega
   · rw [show xcc C10l 5=1 by kernel_rfl,Nat.mul_one,xdc _ n (by rw [xad,List.length_replicate])]
   · intro j hj
     rcases List.mem_cons.1 hj with rfl | hj
     · rw [g0];rfl
     · have:j=1:=by simpa using hj
       subst this;rw [g1];rfl
   · show _=[(h'.get 0).q _ _ _,(h'.get 1).q _ _ _]
     rw [g0,g1]
     rfl
   · show xav ((h'.get 0).c _ _ _++((h'.get 1).c _ _ _++[]))=true
     rw [g0,g1]
     show xav ([true,true,true]++((true::[AV.plainL (ofBytes w)])++[]))=true
     rw [xao];rfl
 · cases hm
theorem xsg:xdm.Sound Try.prog tys (xbz tys) 98 takeZ:=by
 refine xdm.sound_ex fun us bs r hm=>?_
 unfold takeZ at hm
 simp only at hm
 split at hm
 · rename_i n off len ok N cs
   by_cases ht:Nat.ble n len=true
   · exact ⟨takeNy,rfl,takeNy_ok,by unfold takeNy;simp only [if_pos ht];exact hm⟩
   · have ht2:(!Nat.ble n len)=true:=by rw [Bool.not_eq_true _ |>.mp ht];rfl
     exact ⟨takeNn,rfl,takeNn_ok,by unfold takeNn;simp only [if_pos ht2];exact hm⟩
 · rename_i n off len c ok N cs
   by_cases ht:Nat.ble n len=true
   · exact ⟨takeSy,rfl,takeSy_ok,by unfold takeSy;simp only [if_pos ht];exact hm⟩
   · have ht2:(!Nat.ble n len)=true:=by rw [Bool.not_eq_true _ |>.mp ht];rfl
     exact ⟨takeSn,rfl,takeSn_ok,by unfold takeSn;simp only [if_pos ht2];exact hm⟩
 · cases hm
end Go.Proofs.Ytecncappdnhbaaa
end
end

section
noncomputable section
namespace Go.Proofs.Ytecncappdnhbaaa
open Go.Ab.M Go.Ab Go
def K10m:xem:={ t:=[(79,getRu32.rt)],z:=[(98,takeZ.zt)] }
theorem K10m_ok:KOK Try.prog tys K10m:=⟨⟨xcf.rt_sound getRu32_ok,trivial⟩,trivial,⟨xsg,trivial⟩,trivial,trivial⟩
abbrev C10m:=xdt tys fns K10m
theorem all10m:xcy Try.prog C10m:=xdw K10m_ok
end Go.Proofs.Ytecncappdnhbaaa
end
end

section
noncomputable section
namespace Go.Ab.M
def hdU (r:List UInt8):UInt8:=(tkB 1 r).headD 0
def nuB (r:List UInt8):UInt32:=UInt32.ofNat (xkk (tkB 4 r))
def hdN (r:List UInt8):Nat:=(hdU r).toNat
def xdb (r:List UInt8):Nat:=(nuB r).toNat
end Go.Ab.M
namespace Go.Ab
open M
theorem xoe (r:List UInt8):(nuB r).toNat=xkk (tkB 4 r):=by
 unfold nuB
 rw [UInt32.toNat_ofNat']
 have:=getN_lt (tkB 4 r)
 rw [xfv] at this
 exact Nat.mod_eq_of_lt this
theorem xkp (r:List UInt8):ofBytes (tkB 1 r)=[AV.int .u8 ((hdU r).toNat:Int)]:=by
 have h:=xfv 1 r
 unfold hdU
 match hx:tkB 1 r with
 | []=>rw [hx] at h;cases h
 | [x]=>rfl
 | _::_::_=>rw [hx] at h;simp at h
end Go.Ab
namespace Go.Proofs.Ytecncappdnhbaaa
open Go.Ab.M Go.Ab Go
theorem byN (off len N c:Nat) (cs:List AV) (ok:Bool) (h0:(AV.plainL cs)=true) (h1:(u8L cs)=true) (h2:(cs.length.beq N)=true) (h3:((off+len).ble N)=true) (h4:(AV.plainL (kept (ofBytes (tkB 1 (seg (xap cs) off len)))))=true) (h5:((kept (ofBytes (tkB 1 (seg (xap cs) off len)))).length.beq 1)=true) (h6:(Nat.ble 1 (List.drop 0 (kept (ofBytes (tkB 1 (seg (xap cs) off len))))).length)=true) (h7:(AV.isInt IntKind.u8 ((xbp (List.drop 0 (kept (ofBytes (tkB 1 (seg (xap cs) off len))))) 0).getD AV.undef))=true) :
 ZEnd (C10m) [] (Tgt.fn 96) [.ptr (some (0,0))] [.cells true 150 2 [.slice (some (1,off)) len none, .bool ok], .cells true 5 N cs] (AV.int IntKind.u8 ((xbp (List.drop 0 (kept (ofBytes (tkB 1 (seg (xap cs) off len))))) 0).getD AV.undef).intOf) [.cells true 150 2 [.slice (some (1,kept (tkO 1 off len))) (kept (tkL 1 len)) none, .bool (kept (ok && Nat.ble 1 len))], .cells true 5 N cs] :=
 xhi (f:=60) (ks:=[0,1]) (q:=qNs [11,0,6,0,0,0,0,5,0,5,0,4,0,0,0]) (c:=(cnT::cnT::cnT::cnT::cnT::cnT::cnT::cnT::cnT::cnT::[])) (cq:=[true,true,true,AV.plainL cs]) (by kernel_rfl) ⟨h0,h0,h1,h2,h3,h4,h0,h5,h6,h7,trivial⟩ (xci ⟨rfl,rfl,rfl,h0,trivial⟩) (by kernel_rfl) (by kernel_rfl)
theorem nuN (off len N c:Nat) (cs:List AV) (ok:Bool) (h0:(AV.plainL cs)=true) (h1:(u8L cs)=true) (h2:(cs.length.beq N)=true) (h3:((off+len).ble N)=true) (h4:(AV.plainL (kept (ofBytes (tkB 4 (seg (xap cs) off len)))))=true) (h5:((kept (ofBytes (tkB 4 (seg (xap cs) off len)))).length.beq 4)=true) (h6:(u8L (kept (ofBytes (tkB 4 (seg (xap cs) off len)))))=true) :
 ZEnd (C10m) [] (Tgt.fn 97) [.ptr (some (0,0))] [.cells true 150 2 [.slice (some (1,off)) len none, .bool ok], .cells true 5 N cs] (AV.int IntKind.u32 (getI 4 (kept (ofBytes (tkB 4 (seg (xap cs) off len)))))) [.cells true 150 2 [.slice (some (1,kept (tkO 4 off len))) (kept (tkL 4 len)) none, .bool (kept (ok && Nat.ble 4 len))], .cells true 5 N cs] :=
 xhi (f:=60) (ks:=[0,1]) (q:=qNs [11,0,6,0,0,0,0,5,0,5,0,0,0,0]) (c:=(cnT::cnT::cnT::cnT::cnT::cnT::cnT::cnT::cnT::cnT::[])) (cq:=[true,true,true,AV.plainL cs]) (by kernel_rfl) ⟨h0,h0,h1,h2,h3,h4,h0,h4,h5,h6,trivial⟩ (xci ⟨rfl,rfl,rfl,h0,trivial⟩) (by kernel_rfl) (by kernel_rfl)
theorem byS (off len N c:Nat) (cs:List AV) (ok:Bool) (h0:(AV.plainL cs)=true) (h1:(u8L cs)=true) (h2:(cs.length.beq N)=true) (h3:((off+len).ble N)=true) (h4:(len.ble c)=true) (h5:(AV.plainL (kept (ofBytes (tkB 1 (seg (xap cs) off len)))))=true) (h6:((kept (ofBytes (tkB 1 (seg (xap cs) off len)))).length.beq 1)=true) (h7:(Nat.ble 1 (List.drop 0 (kept (ofBytes (tkB 1 (seg (xap cs) off len))))).length)=true) (h8:(AV.isInt IntKind.u8 ((xbp (List.drop 0 (kept (ofBytes (tkB 1 (seg (xap cs) off len))))) 0).getD AV.undef))=true) :
 ZEnd (C10m) [] (Tgt.fn 96) [.ptr (some (0,0))] [.cells true 150 2 [.slice (some (1,off)) len (some c), .bool ok], .cells true 5 N cs] (AV.int IntKind.u8 ((xbp (List.drop 0 (kept (ofBytes (tkB 1 (seg (xap cs) off len))))) 0).getD AV.undef).intOf) [.cells true 150 2 [.slice (some (1,kept (tkO 1 off len))) (kept (tkL 1 len)) (some (kept (tkC 1 len c))), .bool (kept (ok && Nat.ble 1 len))], .cells true 5 N cs] :=
 xhi (f:=60) (ks:=[0,1]) (q:=qNs [11,0,6,0,0,0,0,4,0,3,0,5,0,4,0,0,0]) (c:=(cnT::cnT::cnT::cnT::cnT::cnT::cnT::cnT::cnT::cnT::cnT::[])) (cq:=[true,true,true,AV.plainL cs]) (by kernel_rfl) ⟨h0,h0,h1,h2,h3,h4,h5,h0,h6,h7,h8,trivial⟩ (xci ⟨rfl,rfl,rfl,h0,trivial⟩) (by kernel_rfl) (by kernel_rfl)
theorem nuS (off len N c:Nat) (cs:List AV) (ok:Bool) (h0:(AV.plainL cs)=true) (h1:(u8L cs)=true) (h2:(cs.length.beq N)=true) (h3:((off+len).ble N)=true) (h4:(len.ble c)=true) (h5:(AV.plainL (kept (ofBytes (tkB 4 (seg (xap cs) off len)))))=true) (h6:((kept (ofBytes (tkB 4 (seg (xap cs) off len)))).length.beq 4)=true) (h7:(u8L (kept (ofBytes (tkB 4 (seg (xap cs) off len)))))=true) :
 ZEnd (C10m) [] (Tgt.fn 97) [.ptr (some (0,0))] [.cells true 150 2 [.slice (some (1,off)) len (some c), .bool ok], .cells true 5 N cs] (AV.int IntKind.u32 (getI 4 (kept (ofBytes (tkB 4 (seg (xap cs) off len)))))) [.cells true 150 2 [.slice (some (1,kept (tkO 4 off len))) (kept (tkL 4 len)) (some (kept (tkC 4 len c))), .bool (kept (ok && Nat.ble 4 len))], .cells true 5 N cs] :=
 xhi (f:=60) (ks:=[0,1]) (q:=qNs [11,0,6,0,0,0,0,4,0,3,0,5,0,0,0,0]) (c:=(cnT::cnT::cnT::cnT::cnT::cnT::cnT::cnT::cnT::cnT::cnT::[])) (cq:=[true,true,true,AV.plainL cs]) (by kernel_rfl) ⟨h0,h0,h1,h2,h3,h4,h5,h0,h5,h6,h7,trivial⟩ (xci ⟨rfl,rfl,rfl,h0,trivial⟩) (by kernel_rfl) (by kernel_rfl)
def byteZ:xdm:=⟨[],fun us bs=>match us,bs with
 | [.ptr (some (0,0))],[.cells true 150 2 [.slice (some (1,off)) len none, .bool ok], .cells true 5 N cs]=>some ([u8L cs,Nat.beq cs.length N,Nat.ble (off+len) N], .int .u8 (.ofNat (kept (hdN (seg (xap cs) off len)))),[.cells true 150 2 [.slice (some (1,kept (tkO 1 off len))) (kept (tkL 1 len)) none, .bool (kept (ok && Nat.ble 1 len))], .cells true 5 N cs])
 | [.ptr (some (0,0))],[.cells true 150 2 [.slice (some (1,off)) len (some c), .bool ok], .cells true 5 N cs]=>some ([u8L cs,Nat.beq cs.length N,Nat.ble (off+len) N,Nat.ble len c], .int .u8 (.ofNat (kept (hdN (seg (xap cs) off len)))),[.cells true 150 2 [.slice (some (1,kept (tkO 1 off len))) (kept (tkL 1 len)) (some (kept (tkC 1 len c))), .bool (kept (ok && Nat.ble 1 len))], .cells true 5 N cs])
 | _,_=>none⟩
theorem byteZ_ok:xdm.Sound Try.prog tys (xbz tys) 96 byteZ:=by
 refine xdm.soundZ (cxZ xbd) all10m (xdm.ok_of (cx:=C10m) (g:=96) (s:=byteZ) fun us bs c v bs' hm hc hin=>?_)
 unfold byteZ at hm
 simp only at hm
 split at hm
 · rename_i off len ok N cs
   injection hm with hm;injection hm with e1 hm;injection hm with e2 e3
   subst e1;subst e2;subst e3
   simp only [xah] at hc
   obtain ⟨c1,c2,c3,_⟩:=hc
   obtain ⟨w,rfl⟩:=xdr.1 c1
   have tl:=xfv 1 (seg w off len)
   have bc:=xkp (seg w off len)
   have key:=byN off len N 0 (ofBytes w) ok
   iterate 8
    replace key:=key (by
     (try simp only [xab,xal])
     first
      | done
      | with_reducible assumption
      | with_reducible exact xao _
      | with_reducible exact xbc _
      | (rw [xad,tl];rfl)
      | (rw [bc];rfl))
   rw [xal]
   have ev:AV.int IntKind.u8 ((xbp (List.drop 0 (kept (ofBytes (tkB 1 (seg w off len))))) 0).getD AV.undef).intOf=.int .u8 (Int.ofNat (kept (hdN (seg w off len)))):=by rw [xab,bc,xab];rfl
   rw [xal] at key
   rw [ev] at key
   exact key
 · rename_i off len c ok N cs
   injection hm with hm;injection hm with e1 hm;injection hm with e2 e3
   subst e1;subst e2;subst e3
   simp only [xah] at hc
   obtain ⟨c1,c2,c3,c6,_⟩:=hc
   obtain ⟨w,rfl⟩:=xdr.1 c1
   have tl:=xfv 1 (seg w off len)
   have bc:=xkp (seg w off len)
   have key:=byS off len N c (ofBytes w) ok
   iterate 9
    replace key:=key (by
     (try simp only [xab,xal])
     first
      | done
      | with_reducible assumption
      | with_reducible exact xao _
      | with_reducible exact xbc _
      | (rw [xad,tl];rfl)
      | (rw [bc];rfl))
   rw [xal]
   have ev:AV.int IntKind.u8 ((xbp (List.drop 0 (kept (ofBytes (tkB 1 (seg w off len))))) 0).getD AV.undef).intOf=.int .u8 (Int.ofNat (kept (hdN (seg w off len)))):=by rw [xab,bc,xab];rfl
   rw [xal] at key
   rw [ev] at key
   exact key
 · cases hm
def numZ:xdm:=⟨[],fun us bs=>match us,bs with
 | [.ptr (some (0,0))],[.cells true 150 2 [.slice (some (1,off)) len none, .bool ok], .cells true 5 N cs]=>some ([u8L cs,Nat.beq cs.length N,Nat.ble (off+len) N], .int .u32 (.ofNat (kept (xdb (seg (xap cs) off len)))),[.cells true 150 2 [.slice (some (1,kept (tkO 4 off len))) (kept (tkL 4 len)) none, .bool (kept (ok && Nat.ble 4 len))], .cells true 5 N cs])
 | [.ptr (some (0,0))],[.cells true 150 2 [.slice (some (1,off)) len (some c), .bool ok], .cells true 5 N cs]=>some ([u8L cs,Nat.beq cs.length N,Nat.ble (off+len) N,Nat.ble len c], .int .u32 (.ofNat (kept (xdb (seg (xap cs) off len)))),[.cells true 150 2 [.slice (some (1,kept (tkO 4 off len))) (kept (tkL 4 len)) (some (kept (tkC 4 len c))), .bool (kept (ok && Nat.ble 4 len))], .cells true 5 N cs])
 | _,_=>none⟩
theorem numZ_ok:xdm.Sound Try.prog tys (xbz tys) 97 numZ:=by
 refine xdm.soundZ (cxZ xbd) all10m (xdm.ok_of (cx:=C10m) (g:=97) (s:=numZ) fun us bs c v bs' hm hc hin=>?_)
 unfold numZ at hm
 simp only at hm
 split at hm
 · rename_i off len ok N cs
   injection hm with hm;injection hm with e1 hm;injection hm with e2 e3
   subst e1;subst e2;subst e3
   simp only [xah] at hc
   obtain ⟨c1,c2,c3,_⟩:=hc
   obtain ⟨w,rfl⟩:=xdr.1 c1
   have tl:=xfv 4 (seg w off len)
   have bc:=xkp (seg w off len)
   have key:=nuN off len N 0 (ofBytes w) ok
   iterate 7
    replace key:=key (by
     (try simp only [xab,xal])
     first
      | done
      | with_reducible assumption
      | with_reducible exact xao _
      | with_reducible exact xbc _
      | (rw [xad,tl];rfl)
      | (rw [bc];rfl))
   rw [xal]
   have ev:AV.int IntKind.u32 (getI 4 (kept (ofBytes (tkB 4 (seg w off len)))))=.int .u32 (Int.ofNat (kept (xdb (seg w off len)))):=by
    rw [xab,xft,if_pos (by rw [tl];exact Nat.le_refl 4),xab,xdb,xoe,List.take_of_length_le (by rw [tl];exact Nat.le_refl 4)];rfl
   rw [xal] at key
   rw [ev] at key
   exact key
 · rename_i off len c ok N cs
   injection hm with hm;injection hm with e1 hm;injection hm with e2 e3
   subst e1;subst e2;subst e3
   simp only [xah] at hc
   obtain ⟨c1,c2,c3,c6,_⟩:=hc
   obtain ⟨w,rfl⟩:=xdr.1 c1
   have tl:=xfv 4 (seg w off len)
   have bc:=xkp (seg w off len)
   have key:=nuS off len N c (ofBytes w) ok
   iterate 8
    replace key:=key (by
     (try simp only [xab,xal])
     first
      | done
      | with_reducible assumption
      | with_reducible exact xao _
      | with_reducible exact xbc _
      | (rw [xad,tl];rfl)
      | (rw [bc];rfl))
   rw [xal]
   have ev:AV.int IntKind.u32 (getI 4 (kept (ofBytes (tkB 4 (seg w off len)))))=.int .u32 (Int.ofNat (kept (xdb (seg w off len)))):=by
    rw [xab,xft,if_pos (by rw [tl];exact Nat.le_refl 4),xab,xdb,xoe,List.take_of_length_le (by rw [tl];exact Nat.le_refl 4)];rfl
   rw [xal] at key
   rw [ev] at key
   exact key
 · cases hm
def K10n:xem:={ t:=[(95,rightR.rt)],z:=[(98,takeZ.zt),(96,byteZ.zt),(97,numZ.zt)] }
theorem K10n_ok:KOK Try.prog tys K10n:=⟨⟨xcf.rt_sound xol,trivial⟩,trivial,⟨xsg,byteZ_ok,numZ_ok,trivial⟩,trivial,trivial⟩
abbrev C10n:=xdt tys fns K10n
theorem xpc:xcy Try.prog C10n:=xdw K10n_ok
end Go.Proofs.Ytecncappdnhbaaa
end
end
