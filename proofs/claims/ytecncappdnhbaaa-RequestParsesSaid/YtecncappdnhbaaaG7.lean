/- Texts of the abstract machine and of the laws, merged. -/
import Derived.Test.YtecncappdnhbaaaG6
import Derived.Test.YtecncappdnhbaaaG4
import Derived.Test.YtecncappdnhbaaaG3
set_option autoImplicit false
set_option linter.unusedVariables false
set_option linter.unusedSimpArgs false
set_option linter.unusedSectionVars false
set_option maxRecDepth 100000
section
noncomputable section
namespace Go.Ab.M
def dOp (w:List UInt8):Nat:=(dS w).op
def xis (w:List UInt8):Nat:=(dS w).sub
def dPl (w:List UInt8):Nat:=(dS w).pl
def dFi (w:List UInt8):Nat:=(dS w).fi
def dCt (w:List UInt8):Nat:=(dS w).ct
def dA (w:List UInt8):List UInt32:=(dS w).a
def dD (w:List UInt8):List (List UInt8):=(dS w).d
end Go.Ab.M
namespace Go.Proofs.Ytecncappdnhbaaa
open Go.Ab.M Go.Ab Go
abbrev yb (w:List UInt8) (i:Nat):Nat:=((xbp w i).getD (UInt8.ofNat 0)).toNat
abbrev yc (w:List UInt8):Nat:=xee (Int.ofNat (yb w 0)) w
abbrev yA (w:List UInt8):List AV:=kept (xbs IntKind.u64 (pA (Int.ofNat (yb w 0)) (List.drop 2 w) true (yc w)))
abbrev yD (w:List UInt8):List AV:=kept (encS (pD (Int.ofNat (yb w 0)) (List.drop 2 w) true (yc w)))
abbrev yZ:List AV:=[AV.int IntKind.u8 (Int.ofNat 0),AV.int IntKind.u8 (Int.ofNat 0),AV.int IntKind.u8 (Int.ofNat 0),AV.int IntKind.u64 (Int.ofNat 0),AV.int IntKind.u8 (Int.ofNat 0),AV.slice none 0 (some 0),AV.slice none 0 (some 0)]
theorem yb_eq (w:List UInt8) (i:Nat):yb w i=byD w i:=by unfold yb byD;rw [xdj];rfl
theorem Pq_t (w:List UInt8) (h0:(xam w [])=true) :
 ∃ h',xbl xmp 60 (Tgt.fn 61) [.str w] H0=some (AV.tuple [.agg yZ, .bool false],h')∧[].map h'.get=[] :=
 xaa (q:=qNs [0,20]) (c:=(cnT::[])) (by kernel_rfl) ⟨h0,trivial⟩
theorem Pq_ftt (w:List UInt8) (h0:(xam w [])=false) (h1:(Nat.ble 1 w.length)=true) (h2:(xae (Int.ofNat (yb w 0)) (Int.ofNat 1))=true) (h3:(!xae (Int.ofNat w.length) (Int.ofNat 6))=true) :
 ∃ h',xbl xmp 60 (Tgt.fn 61) [.str w] H0=some (AV.tuple [.agg yZ, .bool false],h')∧[].map h'.get=[] :=
 xaa (q:=qNs [1,3,0,10,0,0,20]) (c:=(cnF::cnT::cnT::cnT::[])) (by kernel_rfl) ⟨h0,h1,h2,h3,trivial⟩
theorem Pq_ftf (w:List UInt8) (h0:(xam w [])=false) (h1:(Nat.ble 1 w.length)=true) (h2:(xae (Int.ofNat (yb w 0)) (Int.ofNat 1))=true) (h3:(!xae (Int.ofNat w.length) (Int.ofNat 6))=false) (h4:(Nat.ble 5 w.length)=true) (h5:(Nat.ble 6 w.length)=true) (h6:(xak (Int.ofNat (kept (xdb (List.drop 1 w)))) (Int.ofNat 4294967296))=true) :
 ∃ h',xbl xmp 60 (Tgt.fn 61) [.str w] H0=some (AV.tuple [.agg [.int .u8 (Int.ofNat (yb w 0)), .int .u8 (Int.ofNat 0), .int .u8 (Int.ofNat 0), .int .u64 (Int.ofNat (kept (xdb (List.drop 1 w)))), .int .u8 (Int.ofNat (yb w 5)), .slice none 0 (some 0), .slice none 0 (some 0)], .bool (xam (kept (xeb (Int.ofNat (yb w 0)) (Int.ofNat 0) (Int.ofNat 0) (Int.ofNat (kept (xdb (List.drop 1 w)))) (Int.ofNat (yb w 5)) 0 0 (xbt []) (xce []))) w)],h')∧[].map h'.get=[] :=
 xaa (q:=qNs [1,3,0,10,0,1,0,6,0,40,0,26,0,17,0,17,0,0,0,0,0,0,0,17]) (c:=(cnF::cnT::cnT::cnF::cnT::cnT::cnT::Cnd.same (AV.agg [AV.int IntKind.u8 (Int.ofNat (yb w 0)),AV.int IntKind.u8 (Int.ofNat 0),AV.int IntKind.u8 (Int.ofNat 0),AV.int IntKind.u64 (Int.ofNat (kept (xdb (List.drop 1 w)))),AV.int IntKind.u8 (Int.ofNat (yb w 5)),AV.slice none 0 (some 0),AV.slice none 0 (some 0)]) (AV.agg [AV.int IntKind.u8 (Int.ofNat (yb w 0)),AV.int IntKind.u8 (Int.ofNat 0),AV.int IntKind.u8 (Int.ofNat 0),AV.int IntKind.u64 (Int.ofNat (kept (xdb (List.drop 1 w)))),AV.int IntKind.u8 (Int.ofNat (yb w 5)),AV.slice none 0 (some 0),AV.slice none 0 (some 0)])::Cnd.same (AV.agg [AV.int IntKind.u8 (Int.ofNat (yb w 0)),AV.int IntKind.u8 (Int.ofNat 0),AV.int IntKind.u8 (Int.ofNat 0),AV.int IntKind.u64 (Int.ofNat (kept (xdb (List.drop 1 w)))),AV.int IntKind.u8 (Int.ofNat (yb w 5)),AV.slice none 0 (some 0),AV.slice none 0 (some 0)]) (AV.agg [AV.int IntKind.u8 (Int.ofNat (yb w 0)),AV.int IntKind.u8 (Int.ofNat 0),AV.int IntKind.u8 (Int.ofNat 0),AV.int IntKind.u64 (Int.ofNat (kept (xdb (List.drop 1 w)))),AV.int IntKind.u8 (Int.ofNat (yb w 5)),AV.slice none 0 (some 0),AV.slice none 0 (some 0)])::Cnd.same (AV.agg [AV.int IntKind.u8 (Int.ofNat (yb w 0)),AV.int IntKind.u8 (Int.ofNat 0),AV.int IntKind.u8 (Int.ofNat 0),AV.int IntKind.u64 (Int.ofNat (kept (xdb (List.drop 1 w)))),AV.int IntKind.u8 (Int.ofNat (yb w 5)),AV.slice none 0 (some 0),AV.slice none 0 (some 0)]) (AV.agg [AV.int IntKind.u8 (Int.ofNat (yb w 0)),AV.int IntKind.u8 (Int.ofNat 0),AV.int IntKind.u8 (Int.ofNat 0),AV.int IntKind.u64 (Int.ofNat (kept (xdb (List.drop 1 w)))),AV.int IntKind.u8 (Int.ofNat (yb w 5)),AV.slice none 0 (some 0),AV.slice none 0 (some 0)])::Cnd.same (AV.str w) (AV.str w)::Cnd.same (AV.str w) (AV.str w)::Cnd.same (AV.str w) (AV.str w)::Cnd.same (AV.bool (xam (kept (xeb (Int.ofNat (yb w 0)) (Int.ofNat 0) (Int.ofNat 0) (Int.ofNat (kept (xdb (List.drop 1 w)))) (Int.ofNat (yb w 5)) 0 0 (xbt []) (xce []))) w)) (AV.bool (xam (kept (xeb (Int.ofNat (yb w 0)) (Int.ofNat 0) (Int.ofNat 0) (Int.ofNat (kept (xdb (List.drop 1 w)))) (Int.ofNat (yb w 5)) 0 0 (xbt []) (xce []))) w))::Cnd.same (AV.bool (xam (kept (xeb (Int.ofNat (yb w 0)) (Int.ofNat 0) (Int.ofNat 0) (Int.ofNat (kept (xdb (List.drop 1 w)))) (Int.ofNat (yb w 5)) 0 0 (xbt []) (xce []))) w)) (AV.bool (xam (kept (xeb (Int.ofNat (yb w 0)) (Int.ofNat 0) (Int.ofNat 0) (Int.ofNat (kept (xdb (List.drop 1 w)))) (Int.ofNat (yb w 5)) 0 0 (xbt []) (xce []))) w))::Cnd.same (AV.bool (xam (kept (xeb (Int.ofNat (yb w 0)) (Int.ofNat 0) (Int.ofNat 0) (Int.ofNat (kept (xdb (List.drop 1 w)))) (Int.ofNat (yb w 5)) 0 0 (xbt []) (xce []))) w)) (AV.bool (xam (kept (xeb (Int.ofNat (yb w 0)) (Int.ofNat 0) (Int.ofNat 0) (Int.ofNat (kept (xdb (List.drop 1 w)))) (Int.ofNat (yb w 5)) 0 0 (xbt []) (xce []))) w))::[])) (by kernel_rfl) ⟨h0,h1,h2,h3,h4,h5,h6,rfl,rfl,rfl,rfl,rfl,rfl,rfl,rfl,rfl,trivial⟩
theorem Pq_fftt (w:List UInt8) (h0:(xam w [])=false) (h1:(Nat.ble 1 w.length)=true) (h2:(xae (Int.ofNat (yb w 0)) (Int.ofNat 1))=false) (h3:(xae (Int.ofNat (yb w 0)) (Int.ofNat 2))=true) (h4:(xak (Int.ofNat w.length) (Int.ofNat 2))=true) :
 ∃ h',xbl xmp 60 (Tgt.fn 61) [.str w] H0=some (AV.tuple [.agg yZ, .bool false],h')∧[].map h'.get=[] :=
 xaa (q:=qNs [1,3,0,10,1,0,0,5,0,0,0,0,0,0,0,0,0,0,0,21]) (c:=(cnF::cnT::cnF::cnT::cnT::cnT::cnT::cnT::cnT::cnT::cnT::cnT::cnT::cnT::cnT::cnT::[])) (by kernel_rfl) ⟨h0,h1,h2,h3,h3,h3,h4,h4,h4,h4,h4,h4,h4,h4,h4,h4,trivial⟩
theorem Pq_fftft (w:List UInt8) (h0:(xam w [])=false) (h1:(Nat.ble 1 w.length)=true) (h2:(xae (Int.ofNat (yb w 0)) (Int.ofNat 1))=false) (h3:(xae (Int.ofNat (yb w 0)) (Int.ofNat 2))=true) (h4:(xak (Int.ofNat w.length) (Int.ofNat 2))=false) (h5:(Nat.ble 2 w.length)=true) (h6:(!xae (Int.ofNat w.length) (xaf IntKind.i64 ((Int.ofNat 2).add (xaf IntKind.i64 ((xaf IntKind.i64 (Int.ofNat (yb w 1))).mul (Int.ofNat 444))))))=true) :
 ∃ h',xbl xmp 60 (Tgt.fn 61) [.str w] H0=some (AV.tuple [.agg yZ, .bool false],h')∧[].map h'.get=[] :=
 xaa (q:=qNs [1,3,0,10,1,0,0,5,0,1,1,1,1,3,0,1,1,1,1,1,1,0,20]) (c:=(cnF::cnT::cnF::cnT::cnT::cnT::cnF::cnF::cnF::cnF::cnT::cnF::cnF::cnF::cnF::cnF::cnF::cnT::[])) (by kernel_rfl) ⟨h0,h1,h2,h3,h3,h3,h4,h4,h4,h4,h5,h4,h4,h4,h4,h4,h4,h6,trivial⟩
theorem Pq_ffftt (w:List UInt8) (h0:(xam w [])=false) (h1:(Nat.ble 1 w.length)=true) (h2:(xae (Int.ofNat (yb w 0)) (Int.ofNat 1))=false) (h3:(xae (Int.ofNat (yb w 0)) (Int.ofNat 2))=false) (h4:(xae (Int.ofNat (yb w 0)) (Int.ofNat 3))=true) (h5:(xak (Int.ofNat w.length) (Int.ofNat 2))=true) :
 ∃ h',xbl xmp 60 (Tgt.fn 61) [.str w] H0=some (AV.tuple [.agg yZ, .bool false],h')∧[].map h'.get=[] :=
 xaa (q:=qNs [1,3,0,10,1,1,0,5,1,0,0,0,0,0,0,0,0,0,0,21]) (c:=(cnF::cnT::cnF::cnF::cnT::cnF::cnT::cnT::cnT::cnT::cnT::cnT::cnT::cnT::cnT::cnT::[])) (by kernel_rfl) ⟨h0,h1,h2,h3,h4,h3,h5,h5,h5,h5,h5,h5,h5,h5,h5,h5,trivial⟩
theorem Pq_fftfft (w:List UInt8) (h0:(xam w [])=false) (h1:(Nat.ble 1 w.length)=true) (h2:(xae (Int.ofNat (yb w 0)) (Int.ofNat 1))=false) (h3:(xae (Int.ofNat (yb w 0)) (Int.ofNat 2))=true) (h4:(xak (Int.ofNat w.length) (Int.ofNat 2))=false) (h5:(Nat.ble 2 w.length)=true) (h6:(!xae (Int.ofNat w.length) (xaf IntKind.i64 ((Int.ofNat 2).add (xaf IntKind.i64 ((xaf IntKind.i64 (Int.ofNat (yb w 1))).mul (Int.ofNat 444))))))=false) (h7:(w.length.beq 2)=true) :
 ∃ h',xbl xmp 60 (Tgt.fn 61) [.str w] H0=some (AV.tuple [.agg [.int .u8 (Int.ofNat (yb w 0)), .int .u8 (Int.ofNat 0), .int .u8 (Int.ofNat 0), .int .u64 (Int.ofNat 0), .int .u8 (Int.ofNat 0), .slice none 0 (some 0), .slice none 0 (some 0)], .bool (xam (kept (xeb (Int.ofNat (yb w 0)) (Int.ofNat 0) (Int.ofNat 0) (Int.ofNat 0) (Int.ofNat 0) 0 0 (xbt []) (xce []))) w)],h')∧[].map h'.get=[] :=
 xaa (q:=qNs [1,3,0,10,1,0,0,5,0,1,1,1,1,3,0,1,1,1,1,1,1,1,0,17,0,67,0,17,0,17,0,0,0,0,0,0,0,17]) (c:=(cnF::cnT::cnF::cnT::cnT::cnT::cnF::cnF::cnF::cnF::cnT::cnF::cnF::cnF::cnF::cnF::cnF::cnF::Cnd.code (ZLT.lsumS (xbz tys) ((61,1),qqL).snd).fst (ZLT.lsumS (xbz tys) ((61,1),qqL).snd).fst::cnT::cnT::Cnd.same (AV.agg [AV.int IntKind.u8 (Int.ofNat (yb w 0)),AV.int IntKind.u8 (Int.ofNat 0),AV.int IntKind.u8 (Int.ofNat 0),AV.int IntKind.u64 (Int.ofNat 0),AV.int IntKind.u8 (Int.ofNat 0),AV.slice none 0 (some 0),AV.slice none 0 (some 0)]) (AV.agg [AV.int IntKind.u8 (Int.ofNat (yb w 0)),AV.int IntKind.u8 (Int.ofNat 0),AV.int IntKind.u8 (Int.ofNat 0),AV.int IntKind.u64 (Int.ofNat 0),AV.int IntKind.u8 (Int.ofNat 0),AV.slice none 0 (some 0),AV.slice none 0 (some 0)])::Cnd.same (AV.agg [AV.int IntKind.u8 (Int.ofNat (yb w 0)),AV.int IntKind.u8 (Int.ofNat 0),AV.int IntKind.u8 (Int.ofNat 0),AV.int IntKind.u64 (Int.ofNat 0),AV.int IntKind.u8 (Int.ofNat 0),AV.slice none 0 (some 0),AV.slice none 0 (some 0)]) (AV.agg [AV.int IntKind.u8 (Int.ofNat (yb w 0)),AV.int IntKind.u8 (Int.ofNat 0),AV.int IntKind.u8 (Int.ofNat 0),AV.int IntKind.u64 (Int.ofNat 0),AV.int IntKind.u8 (Int.ofNat 0),AV.slice none 0 (some 0),AV.slice none 0 (some 0)])::Cnd.same (AV.agg [AV.int IntKind.u8 (Int.ofNat (yb w 0)),AV.int IntKind.u8 (Int.ofNat 0),AV.int IntKind.u8 (Int.ofNat 0),AV.int IntKind.u64 (Int.ofNat 0),AV.int IntKind.u8 (Int.ofNat 0),AV.slice none 0 (some 0),AV.slice none 0 (some 0)]) (AV.agg [AV.int IntKind.u8 (Int.ofNat (yb w 0)),AV.int IntKind.u8 (Int.ofNat 0),AV.int IntKind.u8 (Int.ofNat 0),AV.int IntKind.u64 (Int.ofNat 0),AV.int IntKind.u8 (Int.ofNat 0),AV.slice none 0 (some 0),AV.slice none 0 (some 0)])::Cnd.same (AV.str w) (AV.str w)::Cnd.same (AV.str w) (AV.str w)::Cnd.same (AV.str w) (AV.str w)::Cnd.same (AV.bool (xam (kept (xeb (Int.ofNat (yb w 0)) (Int.ofNat 0) (Int.ofNat 0) (Int.ofNat 0) (Int.ofNat 0) 0 0 (xbt []) (xce []))) w)) (AV.bool (xam (kept (xeb (Int.ofNat (yb w 0)) (Int.ofNat 0) (Int.ofNat 0) (Int.ofNat 0) (Int.ofNat 0) 0 0 (xbt []) (xce []))) w))::Cnd.same (AV.bool (xam (kept (xeb (Int.ofNat (yb w 0)) (Int.ofNat 0) (Int.ofNat 0) (Int.ofNat 0) (Int.ofNat 0) 0 0 (xbt []) (xce []))) w)) (AV.bool (xam (kept (xeb (Int.ofNat (yb w 0)) (Int.ofNat 0) (Int.ofNat 0) (Int.ofNat 0) (Int.ofNat 0) 0 0 (xbt []) (xce []))) w))::Cnd.same (AV.bool (xam (kept (xeb (Int.ofNat (yb w 0)) (Int.ofNat 0) (Int.ofNat 0) (Int.ofNat 0) (Int.ofNat 0) 0 0 (xbt []) (xce []))) w)) (AV.bool (xam (kept (xeb (Int.ofNat (yb w 0)) (Int.ofNat 0) (Int.ofNat 0) (Int.ofNat 0) (Int.ofNat 0) 0 0 (xbt []) (xce []))) w))::[])) (by kernel_rfl) ⟨h0,h1,h2,h3,h3,h3,h4,h4,h4,h4,h5,h4,h4,h4,h4,h4,h4,h6,rfl,h7,h7,rfl,rfl,rfl,rfl,rfl,rfl,rfl,rfl,rfl,trivial⟩
theorem Pq_ffftft (w:List UInt8) (h0:(xam w [])=false) (h1:(Nat.ble 1 w.length)=true) (h2:(xae (Int.ofNat (yb w 0)) (Int.ofNat 1))=false) (h3:(xae (Int.ofNat (yb w 0)) (Int.ofNat 2))=false) (h4:(xae (Int.ofNat (yb w 0)) (Int.ofNat 3))=true) (h5:(xak (Int.ofNat w.length) (Int.ofNat 2))=false) (h6:(Nat.ble 2 w.length)=true) (h7:(!xae (Int.ofNat w.length) (xaf IntKind.i64 ((Int.ofNat 2).add (xaf IntKind.i64 ((xaf IntKind.i64 (Int.ofNat (yb w 1))).mul (Int.ofNat 4))))))=true) :
 ∃ h',xbl xmp 60 (Tgt.fn 61) [.str w] H0=some (AV.tuple [.agg yZ, .bool false],h')∧[].map h'.get=[] :=
 xaa (q:=qNs [1,3,0,10,1,1,0,5,1,1,1,1,1,3,0,1,1,1,1,1,1,0,20]) (c:=(cnF::cnT::cnF::cnF::cnT::cnF::cnF::cnF::cnF::cnF::cnT::cnF::cnF::cnF::cnF::cnF::cnF::cnT::[])) (by kernel_rfl) ⟨h0,h1,h2,h3,h4,h3,h5,h5,h5,h5,h6,h5,h5,h5,h5,h5,h5,h7,trivial⟩
theorem Pq_fffftt (w:List UInt8) (h0:(xam w [])=false) (h1:(Nat.ble 1 w.length)=true) (h2:(xae (Int.ofNat (yb w 0)) (Int.ofNat 1))=false) (h3:(xae (Int.ofNat (yb w 0)) (Int.ofNat 2))=false) (h4:(xae (Int.ofNat (yb w 0)) (Int.ofNat 3))=false) (h5:(xae (Int.ofNat (yb w 0)) (Int.ofNat 5))=true) (h6:(!xae (Int.ofNat w.length) (Int.ofNat 3))=true) :
 ∃ h',xbl xmp 60 (Tgt.fn 61) [.str w] H0=some (AV.tuple [.agg yZ, .bool false],h')∧[].map h'.get=[] :=
 xaa (q:=qNs [1,3,0,10,1,1,1,0,0,0,20]) (c:=(cnF::cnT::cnF::cnF::cnF::cnT::cnT::cnT::[])) (by kernel_rfl) ⟨h0,h1,h2,h3,h4,h5,h5,h6,trivial⟩
theorem Pq_fffftf (w:List UInt8) (h0:(xam w [])=false) (h1:(Nat.ble 1 w.length)=true) (h2:(xae (Int.ofNat (yb w 0)) (Int.ofNat 1))=false) (h3:(xae (Int.ofNat (yb w 0)) (Int.ofNat 2))=false) (h4:(xae (Int.ofNat (yb w 0)) (Int.ofNat 3))=false) (h5:(xae (Int.ofNat (yb w 0)) (Int.ofNat 5))=true) (h6:(!xae (Int.ofNat w.length) (Int.ofNat 3))=false) (h7:(Nat.ble 2 w.length)=true) (h8:(Nat.ble 3 w.length)=true) :
 ∃ h',xbl xmp 60 (Tgt.fn 61) [.str w] H0=some (AV.tuple [.agg [.int .u8 (Int.ofNat (yb w 0)), .int .u8 (Int.ofNat (yb w 1)), .int .u8 (Int.ofNat (yb w 2)), .int .u64 (Int.ofNat 0), .int .u8 (Int.ofNat 0), .slice none 0 (some 0), .slice none 0 (some 0)], .bool (xam (kept (xeb (Int.ofNat (yb w 0)) (Int.ofNat (yb w 1)) (Int.ofNat (yb w 2)) (Int.ofNat 0) (Int.ofNat 0) 0 0 (xbt []) (xce []))) w)],h')∧[].map h'.get=[] :=
 xaa (q:=qNs [1,3,0,10,1,1,1,0,0,1,3,0,6,0,65,0,17,0,17,0,0,0,0,0,0,0,17]) (c:=(cnF::cnT::cnF::cnF::cnF::cnT::cnT::cnF::cnT::cnT::Cnd.same (AV.agg [AV.int IntKind.u8 (Int.ofNat (yb w 0)),AV.int IntKind.u8 (Int.ofNat (yb w 1)),AV.int IntKind.u8 (Int.ofNat (yb w 2)),AV.int IntKind.u64 (Int.ofNat 0),AV.int IntKind.u8 (Int.ofNat 0),AV.slice none 0 (some 0),AV.slice none 0 (some 0)]) (AV.agg [AV.int IntKind.u8 (Int.ofNat (yb w 0)),AV.int IntKind.u8 (Int.ofNat (yb w 1)),AV.int IntKind.u8 (Int.ofNat (yb w 2)),AV.int IntKind.u64 (Int.ofNat 0),AV.int IntKind.u8 (Int.ofNat 0),AV.slice none 0 (some 0),AV.slice none 0 (some 0)])::Cnd.same (AV.agg [AV.int IntKind.u8 (Int.ofNat (yb w 0)),AV.int IntKind.u8 (Int.ofNat (yb w 1)),AV.int IntKind.u8 (Int.ofNat (yb w 2)),AV.int IntKind.u64 (Int.ofNat 0),AV.int IntKind.u8 (Int.ofNat 0),AV.slice none 0 (some 0),AV.slice none 0 (some 0)]) (AV.agg [AV.int IntKind.u8 (Int.ofNat (yb w 0)),AV.int IntKind.u8 (Int.ofNat (yb w 1)),AV.int IntKind.u8 (Int.ofNat (yb w 2)),AV.int IntKind.u64 (Int.ofNat 0),AV.int IntKind.u8 (Int.ofNat 0),AV.slice none 0 (some 0),AV.slice none 0 (some 0)])::Cnd.same (AV.agg [AV.int IntKind.u8 (Int.ofNat (yb w 0)),AV.int IntKind.u8 (Int.ofNat (yb w 1)),AV.int IntKind.u8 (Int.ofNat (yb w 2)),AV.int IntKind.u64 (Int.ofNat 0),AV.int IntKind.u8 (Int.ofNat 0),AV.slice none 0 (some 0),AV.slice none 0 (some 0)]) (AV.agg [AV.int IntKind.u8 (Int.ofNat (yb w 0)),AV.int IntKind.u8 (Int.ofNat (yb w 1)),AV.int IntKind.u8 (Int.ofNat (yb w 2)),AV.int IntKind.u64 (Int.ofNat 0),AV.int IntKind.u8 (Int.ofNat 0),AV.slice none 0 (some 0),AV.slice none 0 (some 0)])::Cnd.same (AV.str w) (AV.str w)::Cnd.same (AV.str w) (AV.str w)::Cnd.same (AV.str w) (AV.str w)::Cnd.same (AV.bool (xam (kept (xeb (Int.ofNat (yb w 0)) (Int.ofNat (yb w 1)) (Int.ofNat (yb w 2)) (Int.ofNat 0) (Int.ofNat 0) 0 0 (xbt []) (xce []))) w)) (AV.bool (xam (kept (xeb (Int.ofNat (yb w 0)) (Int.ofNat (yb w 1)) (Int.ofNat (yb w 2)) (Int.ofNat 0) (Int.ofNat 0) 0 0 (xbt []) (xce []))) w))::Cnd.same (AV.bool (xam (kept (xeb (Int.ofNat (yb w 0)) (Int.ofNat (yb w 1)) (Int.ofNat (yb w 2)) (Int.ofNat 0) (Int.ofNat 0) 0 0 (xbt []) (xce []))) w)) (AV.bool (xam (kept (xeb (Int.ofNat (yb w 0)) (Int.ofNat (yb w 1)) (Int.ofNat (yb w 2)) (Int.ofNat 0) (Int.ofNat 0) 0 0 (xbt []) (xce []))) w))::Cnd.same (AV.bool (xam (kept (xeb (Int.ofNat (yb w 0)) (Int.ofNat (yb w 1)) (Int.ofNat (yb w 2)) (Int.ofNat 0) (Int.ofNat 0) 0 0 (xbt []) (xce []))) w)) (AV.bool (xam (kept (xeb (Int.ofNat (yb w 0)) (Int.ofNat (yb w 1)) (Int.ofNat (yb w 2)) (Int.ofNat 0) (Int.ofNat 0) 0 0 (xbt []) (xce []))) w))::[])) (by kernel_rfl) ⟨h0,h1,h2,h3,h4,h5,h5,h6,h7,h8,rfl,rfl,rfl,rfl,rfl,rfl,rfl,rfl,rfl,trivial⟩
theorem Pq_fftffft (w:List UInt8) (h0:(xam w [])=false) (h1:(Nat.ble 1 w.length)=true) (h2:(xae (Int.ofNat (yb w 0)) (Int.ofNat 1))=false) (h3:(xae (Int.ofNat (yb w 0)) (Int.ofNat 2))=true) (h4:(xak (Int.ofNat w.length) (Int.ofNat 2))=false) (h5:(Nat.ble 2 w.length)=true) (h6:(!xae (Int.ofNat w.length) (xaf IntKind.i64 ((Int.ofNat 2).add (xaf IntKind.i64 ((xaf IntKind.i64 (Int.ofNat (yb w 1))).mul (Int.ofNat 444))))))=false) (h7:(w.length.beq 2)=false) (h8:(xae (Int.ofNat (yb w 0)) (Int.ofNat 2))=true) (h9:(Nat.beq 444 (xet (Int.ofNat (yb w 0))))=true) (h10:(w.length.ble 100000)=true) (h11:(w.length.beq (2+xee (Int.ofNat (yb w 0)) w*xet (Int.ofNat (yb w 0))))=true) (h12:(Nat.ble 1 (yc w))=true) (h13:(AV.plainL (yA w))=true) (h14:(AV.plainL (yD w))=true) (h15:((0+kept (yc w)*1).ble (kept (yc w)))=true) (h16:(isU IntKind.u64 (xan (yA w) 0 (kept (yc w)*1)))=true) (h17:((xan (yA w) 0 (kept (yc w)*1)).length.beq (kept (yc w)))=true) (h18:((kept (yc w)).ble 1000000)=true) (h19:(isS (xan (yD w) 0 (kept (yc w)*1)))=true) (h20:((xan (yD w) 0 (kept (yc w)*1)).length.beq (kept (yc w)))=true) :
 ∃ h',xbl xmp 60 (Tgt.fn 61) [.str w] H0=some (AV.tuple [.agg [.int .u8 (Int.ofNat (yb w 0)), .int .u8 (Int.ofNat 0), .int .u8 (Int.ofNat 0), .int .u64 (Int.ofNat 0), .int .u8 (Int.ofNat 0), .slice (some (2,0)) (kept (yc w)) none, .slice (some (3,0)) (kept (yc w)) none], .bool (xam (kept (xeb (Int.ofNat (yb w 0)) (Int.ofNat 0) (Int.ofNat 0) (Int.ofNat 0) (Int.ofNat 0) (kept (yc w)) (kept (yc w)) (xbt (xan (yA w) 0 (kept (yc w)*1))) (xce (xan (yD w) 0 (kept (yc w)*1))))) w)],h')∧[2,3].map h'.get=[.cells true 22 (kept (yc w)) (yA w), .cells true 9 (kept (yc w)) (yD w)] :=
 xaa (q:=qNs [1,3,0,10,1,0,0,5,0,1,1,1,1,3,0,1,1,1,1,1,1,1,1,0,17,0,0,0,0,0,10,0,3,0,32,0,0,0,0,8,0,0,0,0,0,0,20,0,17,0,17,0,0,0,0,0,0,0,17]) (c:=(cnF::cnT::cnF::cnT::cnT::cnT::cnF::cnF::cnF::cnF::cnT::cnF::cnF::cnF::cnF::cnF::cnF::cnF::Cnd.code (ZLT.lsumS (xbz tys) ((61,1),qqL).snd).fst (ZLT.lsumS (xbz tys) ((61,1),qqL).snd).fst::cnF::cnT::cnT::cnT::cnT::cnT::cnT::cnT::cnT::cnT::cnT::cnT::cnT::cnT::cnT::cnT::cnT::cnT::cnT::Cnd.same (AV.agg [AV.int IntKind.u8 (Int.ofNat (yb w 0)),AV.int IntKind.u8 (Int.ofNat 0),AV.int IntKind.u8 (Int.ofNat 0),AV.int IntKind.u64 (Int.ofNat 0),AV.int IntKind.u8 (Int.ofNat 0),AV.slice (some (2,0)) (kept (yc w)) none,AV.slice (some (3,0)) (kept (yc w)) none]) (AV.agg [AV.int IntKind.u8 (Int.ofNat (yb w 0)),AV.int IntKind.u8 (Int.ofNat 0),AV.int IntKind.u8 (Int.ofNat 0),AV.int IntKind.u64 (Int.ofNat 0),AV.int IntKind.u8 (Int.ofNat 0),AV.slice (some (2,0)) (kept (yc w)) none,AV.slice (some (3,0)) (kept (yc w)) none])::Cnd.same (AV.agg [AV.int IntKind.u8 (Int.ofNat (yb w 0)),AV.int IntKind.u8 (Int.ofNat 0),AV.int IntKind.u8 (Int.ofNat 0),AV.int IntKind.u64 (Int.ofNat 0),AV.int IntKind.u8 (Int.ofNat 0),AV.slice (some (2,0)) (kept (yc w)) none,AV.slice (some (3,0)) (kept (yc w)) none]) (AV.agg [AV.int IntKind.u8 (Int.ofNat (yb w 0)),AV.int IntKind.u8 (Int.ofNat 0),AV.int IntKind.u8 (Int.ofNat 0),AV.int IntKind.u64 (Int.ofNat 0),AV.int IntKind.u8 (Int.ofNat 0),AV.slice (some (2,0)) (kept (yc w)) none,AV.slice (some (3,0)) (kept (yc w)) none])::Cnd.same (AV.agg [AV.int IntKind.u8 (Int.ofNat (yb w 0)),AV.int IntKind.u8 (Int.ofNat 0),AV.int IntKind.u8 (Int.ofNat 0),AV.int IntKind.u64 (Int.ofNat 0),AV.int IntKind.u8 (Int.ofNat 0),AV.slice (some (2,0)) (kept (yc w)) none,AV.slice (some (3,0)) (kept (yc w)) none]) (AV.agg [AV.int IntKind.u8 (Int.ofNat (yb w 0)),AV.int IntKind.u8 (Int.ofNat 0),AV.int IntKind.u8 (Int.ofNat 0),AV.int IntKind.u64 (Int.ofNat 0),AV.int IntKind.u8 (Int.ofNat 0),AV.slice (some (2,0)) (kept (yc w)) none,AV.slice (some (3,0)) (kept (yc w)) none])::Cnd.same (AV.str w) (AV.str w)::Cnd.same (AV.str w) (AV.str w)::Cnd.same (AV.str w) (AV.str w)::Cnd.same (AV.bool (xam (kept (xeb (Int.ofNat (yb w 0)) (Int.ofNat 0) (Int.ofNat 0) (Int.ofNat 0) (Int.ofNat 0) (kept (yc w)) (kept (yc w)) (xbt (xan (yA w) 0 (kept (yc w)*1))) (xce (xan (yD w) 0 (kept (yc w)*1))))) w)) (AV.bool (xam (kept (xeb (Int.ofNat (yb w 0)) (Int.ofNat 0) (Int.ofNat 0) (Int.ofNat 0) (Int.ofNat 0) (kept (yc w)) (kept (yc w)) (xbt (xan (yA w) 0 (kept (yc w)*1))) (xce (xan (yD w) 0 (kept (yc w)*1))))) w))::Cnd.same (AV.bool (xam (kept (xeb (Int.ofNat (yb w 0)) (Int.ofNat 0) (Int.ofNat 0) (Int.ofNat 0) (Int.ofNat 0) (kept (yc w)) (kept (yc w)) (xbt (xan (yA w) 0 (kept (yc w)*1))) (xce (xan (yD w) 0 (kept (yc w)*1))))) w)) (AV.bool (xam (kept (xeb (Int.ofNat (yb w 0)) (Int.ofNat 0) (Int.ofNat 0) (Int.ofNat 0) (Int.ofNat 0) (kept (yc w)) (kept (yc w)) (xbt (xan (yA w) 0 (kept (yc w)*1))) (xce (xan (yD w) 0 (kept (yc w)*1))))) w))::Cnd.same (AV.bool (xam (kept (xeb (Int.ofNat (yb w 0)) (Int.ofNat 0) (Int.ofNat 0) (Int.ofNat 0) (Int.ofNat 0) (kept (yc w)) (kept (yc w)) (xbt (xan (yA w) 0 (kept (yc w)*1))) (xce (xan (yD w) 0 (kept (yc w)*1))))) w)) (AV.bool (xam (kept (xeb (Int.ofNat (yb w 0)) (Int.ofNat 0) (Int.ofNat 0) (Int.ofNat 0) (Int.ofNat 0) (kept (yc w)) (kept (yc w)) (xbt (xan (yA w) 0 (kept (yc w)*1))) (xce (xan (yD w) 0 (kept (yc w)*1))))) w))::[])) (by kernel_rfl) ⟨h0,h1,h2,h3,h3,h3,h4,h4,h4,h4,h5,h4,h4,h4,h4,h4,h4,h6,rfl,h7,h8,h9,h10,h11,h12,h8,h13,h14,h15,h13,h15,h14,h16,h17,h18,h19,h20,h18,rfl,rfl,rfl,rfl,rfl,rfl,rfl,rfl,rfl,trivial⟩
theorem Pq_ffftfft (w:List UInt8) (h0:(xam w [])=false) (h1:(Nat.ble 1 w.length)=true) (h2:(xae (Int.ofNat (yb w 0)) (Int.ofNat 1))=false) (h3:(xae (Int.ofNat (yb w 0)) (Int.ofNat 2))=false) (h4:(xae (Int.ofNat (yb w 0)) (Int.ofNat 3))=true) (h5:(xak (Int.ofNat w.length) (Int.ofNat 2))=false) (h6:(Nat.ble 2 w.length)=true) (h7:(!xae (Int.ofNat w.length) (xaf IntKind.i64 ((Int.ofNat 2).add (xaf IntKind.i64 ((xaf IntKind.i64 (Int.ofNat (yb w 1))).mul (Int.ofNat 4))))))=false) (h8:(w.length.beq 2)=true) :
 ∃ h',xbl xmp 60 (Tgt.fn 61) [.str w] H0=some (AV.tuple [.agg [.int .u8 (Int.ofNat (yb w 0)), .int .u8 (Int.ofNat 0), .int .u8 (Int.ofNat 0), .int .u64 (Int.ofNat 0), .int .u8 (Int.ofNat 0), .slice none 0 (some 0), .slice none 0 (some 0)], .bool (xam (kept (xeb (Int.ofNat (yb w 0)) (Int.ofNat 0) (Int.ofNat 0) (Int.ofNat 0) (Int.ofNat 0) 0 0 (xbt []) (xce []))) w)],h')∧[].map h'.get=[] :=
 xaa (q:=qNs [1,3,0,10,1,1,0,5,1,1,1,1,1,3,0,1,1,1,1,1,1,1,0,17,0,67,0,17,0,17,0,0,0,0,0,0,0,17]) (c:=(cnF::cnT::cnF::cnF::cnT::cnF::cnF::cnF::cnF::cnF::cnT::cnF::cnF::cnF::cnF::cnF::cnF::cnF::Cnd.code (ZLT.lsumS (xbz tys) ((61,1),qqL).snd).fst (ZLT.lsumS (xbz tys) ((61,1),qqL).snd).fst::cnT::cnT::Cnd.same (AV.agg [AV.int IntKind.u8 (Int.ofNat (yb w 0)),AV.int IntKind.u8 (Int.ofNat 0),AV.int IntKind.u8 (Int.ofNat 0),AV.int IntKind.u64 (Int.ofNat 0),AV.int IntKind.u8 (Int.ofNat 0),AV.slice none 0 (some 0),AV.slice none 0 (some 0)]) (AV.agg [AV.int IntKind.u8 (Int.ofNat (yb w 0)),AV.int IntKind.u8 (Int.ofNat 0),AV.int IntKind.u8 (Int.ofNat 0),AV.int IntKind.u64 (Int.ofNat 0),AV.int IntKind.u8 (Int.ofNat 0),AV.slice none 0 (some 0),AV.slice none 0 (some 0)])::Cnd.same (AV.agg [AV.int IntKind.u8 (Int.ofNat (yb w 0)),AV.int IntKind.u8 (Int.ofNat 0),AV.int IntKind.u8 (Int.ofNat 0),AV.int IntKind.u64 (Int.ofNat 0),AV.int IntKind.u8 (Int.ofNat 0),AV.slice none 0 (some 0),AV.slice none 0 (some 0)]) (AV.agg [AV.int IntKind.u8 (Int.ofNat (yb w 0)),AV.int IntKind.u8 (Int.ofNat 0),AV.int IntKind.u8 (Int.ofNat 0),AV.int IntKind.u64 (Int.ofNat 0),AV.int IntKind.u8 (Int.ofNat 0),AV.slice none 0 (some 0),AV.slice none 0 (some 0)])::Cnd.same (AV.agg [AV.int IntKind.u8 (Int.ofNat (yb w 0)),AV.int IntKind.u8 (Int.ofNat 0),AV.int IntKind.u8 (Int.ofNat 0),AV.int IntKind.u64 (Int.ofNat 0),AV.int IntKind.u8 (Int.ofNat 0),AV.slice none 0 (some 0),AV.slice none 0 (some 0)]) (AV.agg [AV.int IntKind.u8 (Int.ofNat (yb w 0)),AV.int IntKind.u8 (Int.ofNat 0),AV.int IntKind.u8 (Int.ofNat 0),AV.int IntKind.u64 (Int.ofNat 0),AV.int IntKind.u8 (Int.ofNat 0),AV.slice none 0 (some 0),AV.slice none 0 (some 0)])::Cnd.same (AV.str w) (AV.str w)::Cnd.same (AV.str w) (AV.str w)::Cnd.same (AV.str w) (AV.str w)::Cnd.same (AV.bool (xam (kept (xeb (Int.ofNat (yb w 0)) (Int.ofNat 0) (Int.ofNat 0) (Int.ofNat 0) (Int.ofNat 0) 0 0 (xbt []) (xce []))) w)) (AV.bool (xam (kept (xeb (Int.ofNat (yb w 0)) (Int.ofNat 0) (Int.ofNat 0) (Int.ofNat 0) (Int.ofNat 0) 0 0 (xbt []) (xce []))) w))::Cnd.same (AV.bool (xam (kept (xeb (Int.ofNat (yb w 0)) (Int.ofNat 0) (Int.ofNat 0) (Int.ofNat 0) (Int.ofNat 0) 0 0 (xbt []) (xce []))) w)) (AV.bool (xam (kept (xeb (Int.ofNat (yb w 0)) (Int.ofNat 0) (Int.ofNat 0) (Int.ofNat 0) (Int.ofNat 0) 0 0 (xbt []) (xce []))) w))::Cnd.same (AV.bool (xam (kept (xeb (Int.ofNat (yb w 0)) (Int.ofNat 0) (Int.ofNat 0) (Int.ofNat 0) (Int.ofNat 0) 0 0 (xbt []) (xce []))) w)) (AV.bool (xam (kept (xeb (Int.ofNat (yb w 0)) (Int.ofNat 0) (Int.ofNat 0) (Int.ofNat 0) (Int.ofNat 0) 0 0 (xbt []) (xce []))) w))::[])) (by kernel_rfl) ⟨h0,h1,h2,h3,h4,h3,h5,h5,h5,h5,h6,h5,h5,h5,h5,h5,h5,h7,rfl,h8,h8,rfl,rfl,rfl,rfl,rfl,rfl,rfl,rfl,rfl,trivial⟩
theorem Pq_ffffftt (w:List UInt8) (h0:(xam w [])=false) (h1:(Nat.ble 1 w.length)=true) (h2:(xae (Int.ofNat (yb w 0)) (Int.ofNat 1))=false) (h3:(xae (Int.ofNat (yb w 0)) (Int.ofNat 2))=false) (h4:(xae (Int.ofNat (yb w 0)) (Int.ofNat 3))=false) (h5:(xae (Int.ofNat (yb w 0)) (Int.ofNat 5))=false) (h6:(xae (Int.ofNat (yb w 0)) (Int.ofNat 6))=true) (h7:(!xae (Int.ofNat w.length) (Int.ofNat 3))=true) :
 ∃ h',xbl xmp 60 (Tgt.fn 61) [.str w] H0=some (AV.tuple [.agg yZ, .bool false],h')∧[].map h'.get=[] :=
 xaa (q:=qNs [1,3,0,10,1,1,1,1,0,0,0,20]) (c:=(cnF::cnT::cnF::cnF::cnF::cnF::cnT::cnT::cnT::[])) (by kernel_rfl) ⟨h0,h1,h2,h3,h4,h5,h6,h6,h7,trivial⟩
theorem Pq_ffffftf (w:List UInt8) (h0:(xam w [])=false) (h1:(Nat.ble 1 w.length)=true) (h2:(xae (Int.ofNat (yb w 0)) (Int.ofNat 1))=false) (h3:(xae (Int.ofNat (yb w 0)) (Int.ofNat 2))=false) (h4:(xae (Int.ofNat (yb w 0)) (Int.ofNat 3))=false) (h5:(xae (Int.ofNat (yb w 0)) (Int.ofNat 5))=false) (h6:(xae (Int.ofNat (yb w 0)) (Int.ofNat 6))=true) (h7:(!xae (Int.ofNat w.length) (Int.ofNat 3))=false) (h8:(Nat.ble 2 w.length)=true) (h9:(Nat.ble 3 w.length)=true) :
 ∃ h',xbl xmp 60 (Tgt.fn 61) [.str w] H0=some (AV.tuple [.agg [.int .u8 (Int.ofNat (yb w 0)), .int .u8 (Int.ofNat (yb w 1)), .int .u8 (Int.ofNat (yb w 2)), .int .u64 (Int.ofNat 0), .int .u8 (Int.ofNat 0), .slice none 0 (some 0), .slice none 0 (some 0)], .bool (xam (kept (xeb (Int.ofNat (yb w 0)) (Int.ofNat (yb w 1)) (Int.ofNat (yb w 2)) (Int.ofNat 0) (Int.ofNat 0) 0 0 (xbt []) (xce []))) w)],h')∧[].map h'.get=[] :=
 xaa (q:=qNs [1,3,0,10,1,1,1,1,0,0,1,3,0,6,0,65,0,17,0,17,0,0,0,0,0,0,0,17]) (c:=(cnF::cnT::cnF::cnF::cnF::cnF::cnT::cnT::cnF::cnT::cnT::Cnd.same (AV.agg [AV.int IntKind.u8 (Int.ofNat (yb w 0)),AV.int IntKind.u8 (Int.ofNat (yb w 1)),AV.int IntKind.u8 (Int.ofNat (yb w 2)),AV.int IntKind.u64 (Int.ofNat 0),AV.int IntKind.u8 (Int.ofNat 0),AV.slice none 0 (some 0),AV.slice none 0 (some 0)]) (AV.agg [AV.int IntKind.u8 (Int.ofNat (yb w 0)),AV.int IntKind.u8 (Int.ofNat (yb w 1)),AV.int IntKind.u8 (Int.ofNat (yb w 2)),AV.int IntKind.u64 (Int.ofNat 0),AV.int IntKind.u8 (Int.ofNat 0),AV.slice none 0 (some 0),AV.slice none 0 (some 0)])::Cnd.same (AV.agg [AV.int IntKind.u8 (Int.ofNat (yb w 0)),AV.int IntKind.u8 (Int.ofNat (yb w 1)),AV.int IntKind.u8 (Int.ofNat (yb w 2)),AV.int IntKind.u64 (Int.ofNat 0),AV.int IntKind.u8 (Int.ofNat 0),AV.slice none 0 (some 0),AV.slice none 0 (some 0)]) (AV.agg [AV.int IntKind.u8 (Int.ofNat (yb w 0)),AV.int IntKind.u8 (Int.ofNat (yb w 1)),AV.int IntKind.u8 (Int.ofNat (yb w 2)),AV.int IntKind.u64 (Int.ofNat 0),AV.int IntKind.u8 (Int.ofNat 0),AV.slice none 0 (some 0),AV.slice none 0 (some 0)])::Cnd.same (AV.agg [AV.int IntKind.u8 (Int.ofNat (yb w 0)),AV.int IntKind.u8 (Int.ofNat (yb w 1)),AV.int IntKind.u8 (Int.ofNat (yb w 2)),AV.int IntKind.u64 (Int.ofNat 0),AV.int IntKind.u8 (Int.ofNat 0),AV.slice none 0 (some 0),AV.slice none 0 (some 0)]) (AV.agg [AV.int IntKind.u8 (Int.ofNat (yb w 0)),AV.int IntKind.u8 (Int.ofNat (yb w 1)),AV.int IntKind.u8 (Int.ofNat (yb w 2)),AV.int IntKind.u64 (Int.ofNat 0),AV.int IntKind.u8 (Int.ofNat 0),AV.slice none 0 (some 0),AV.slice none 0 (some 0)])::Cnd.same (AV.str w) (AV.str w)::Cnd.same (AV.str w) (AV.str w)::Cnd.same (AV.str w) (AV.str w)::Cnd.same (AV.bool (xam (kept (xeb (Int.ofNat (yb w 0)) (Int.ofNat (yb w 1)) (Int.ofNat (yb w 2)) (Int.ofNat 0) (Int.ofNat 0) 0 0 (xbt []) (xce []))) w)) (AV.bool (xam (kept (xeb (Int.ofNat (yb w 0)) (Int.ofNat (yb w 1)) (Int.ofNat (yb w 2)) (Int.ofNat 0) (Int.ofNat 0) 0 0 (xbt []) (xce []))) w))::Cnd.same (AV.bool (xam (kept (xeb (Int.ofNat (yb w 0)) (Int.ofNat (yb w 1)) (Int.ofNat (yb w 2)) (Int.ofNat 0) (Int.ofNat 0) 0 0 (xbt []) (xce []))) w)) (AV.bool (xam (kept (xeb (Int.ofNat (yb w 0)) (Int.ofNat (yb w 1)) (Int.ofNat (yb w 2)) (Int.ofNat 0) (Int.ofNat 0) 0 0 (xbt []) (xce []))) w))::Cnd.same (AV.bool (xam (kept (xeb (Int.ofNat (yb w 0)) (Int.ofNat (yb w 1)) (Int.ofNat (yb w 2)) (Int.ofNat 0) (Int.ofNat 0) 0 0 (xbt []) (xce []))) w)) (AV.bool (xam (kept (xeb (Int.ofNat (yb w 0)) (Int.ofNat (yb w 1)) (Int.ofNat (yb w 2)) (Int.ofNat 0) (Int.ofNat 0) 0 0 (xbt []) (xce []))) w))::[])) (by kernel_rfl) ⟨h0,h1,h2,h3,h4,h5,h6,h6,h7,h8,h9,rfl,rfl,rfl,rfl,rfl,rfl,rfl,rfl,rfl,trivial⟩
theorem Pq_fffffff (w:List UInt8) (h0:(xam w [])=false) (h1:(Nat.ble 1 w.length)=true) (h2:(xae (Int.ofNat (yb w 0)) (Int.ofNat 1))=false) (h3:(xae (Int.ofNat (yb w 0)) (Int.ofNat 2))=false) (h4:(xae (Int.ofNat (yb w 0)) (Int.ofNat 3))=false) (h5:(xae (Int.ofNat (yb w 0)) (Int.ofNat 5))=false) (h6:(xae (Int.ofNat (yb w 0)) (Int.ofNat 6))=false) (h7:(xae (Int.ofNat (yb w 0)) (Int.ofNat 7))=false) :
 ∃ h',xbl xmp 60 (Tgt.fn 61) [.str w] H0=some (AV.tuple [.agg [.int .u8 (Int.ofNat (yb w 0)), .int .u8 (Int.ofNat 0), .int .u8 (Int.ofNat 0), .int .u64 (Int.ofNat 0), .int .u8 (Int.ofNat 0), .slice none 0 (some 0), .slice none 0 (some 0)], .bool (xam (kept (xeb (Int.ofNat (yb w 0)) (Int.ofNat 0) (Int.ofNat 0) (Int.ofNat 0) (Int.ofNat 0) 0 0 (xbt []) (xce []))) w)],h')∧[].map h'.get=[] :=
 xaa (q:=qNs [1,3,0,10,1,1,1,1,1,1,62,0,17,0,17,0,0,0,0,0,0,0,17]) (c:=(cnF::cnT::cnF::cnF::cnF::cnF::cnF::cnF::Cnd.same (AV.agg [AV.int IntKind.u8 (Int.ofNat (yb w 0)),AV.int IntKind.u8 (Int.ofNat 0),AV.int IntKind.u8 (Int.ofNat 0),AV.int IntKind.u64 (Int.ofNat 0),AV.int IntKind.u8 (Int.ofNat 0),AV.slice none 0 (some 0),AV.slice none 0 (some 0)]) (AV.agg [AV.int IntKind.u8 (Int.ofNat (yb w 0)),AV.int IntKind.u8 (Int.ofNat 0),AV.int IntKind.u8 (Int.ofNat 0),AV.int IntKind.u64 (Int.ofNat 0),AV.int IntKind.u8 (Int.ofNat 0),AV.slice none 0 (some 0),AV.slice none 0 (some 0)])::Cnd.same (AV.agg [AV.int IntKind.u8 (Int.ofNat (yb w 0)),AV.int IntKind.u8 (Int.ofNat 0),AV.int IntKind.u8 (Int.ofNat 0),AV.int IntKind.u64 (Int.ofNat 0),AV.int IntKind.u8 (Int.ofNat 0),AV.slice none 0 (some 0),AV.slice none 0 (some 0)]) (AV.agg [AV.int IntKind.u8 (Int.ofNat (yb w 0)),AV.int IntKind.u8 (Int.ofNat 0),AV.int IntKind.u8 (Int.ofNat 0),AV.int IntKind.u64 (Int.ofNat 0),AV.int IntKind.u8 (Int.ofNat 0),AV.slice none 0 (some 0),AV.slice none 0 (some 0)])::Cnd.same (AV.agg [AV.int IntKind.u8 (Int.ofNat (yb w 0)),AV.int IntKind.u8 (Int.ofNat 0),AV.int IntKind.u8 (Int.ofNat 0),AV.int IntKind.u64 (Int.ofNat 0),AV.int IntKind.u8 (Int.ofNat 0),AV.slice none 0 (some 0),AV.slice none 0 (some 0)]) (AV.agg [AV.int IntKind.u8 (Int.ofNat (yb w 0)),AV.int IntKind.u8 (Int.ofNat 0),AV.int IntKind.u8 (Int.ofNat 0),AV.int IntKind.u64 (Int.ofNat 0),AV.int IntKind.u8 (Int.ofNat 0),AV.slice none 0 (some 0),AV.slice none 0 (some 0)])::Cnd.same (AV.str w) (AV.str w)::Cnd.same (AV.str w) (AV.str w)::Cnd.same (AV.str w) (AV.str w)::Cnd.same (AV.bool (xam (kept (xeb (Int.ofNat (yb w 0)) (Int.ofNat 0) (Int.ofNat 0) (Int.ofNat 0) (Int.ofNat 0) 0 0 (xbt []) (xce []))) w)) (AV.bool (xam (kept (xeb (Int.ofNat (yb w 0)) (Int.ofNat 0) (Int.ofNat 0) (Int.ofNat 0) (Int.ofNat 0) 0 0 (xbt []) (xce []))) w))::Cnd.same (AV.bool (xam (kept (xeb (Int.ofNat (yb w 0)) (Int.ofNat 0) (Int.ofNat 0) (Int.ofNat 0) (Int.ofNat 0) 0 0 (xbt []) (xce []))) w)) (AV.bool (xam (kept (xeb (Int.ofNat (yb w 0)) (Int.ofNat 0) (Int.ofNat 0) (Int.ofNat 0) (Int.ofNat 0) 0 0 (xbt []) (xce []))) w))::Cnd.same (AV.bool (xam (kept (xeb (Int.ofNat (yb w 0)) (Int.ofNat 0) (Int.ofNat 0) (Int.ofNat 0) (Int.ofNat 0) 0 0 (xbt []) (xce []))) w)) (AV.bool (xam (kept (xeb (Int.ofNat (yb w 0)) (Int.ofNat 0) (Int.ofNat 0) (Int.ofNat 0) (Int.ofNat 0) 0 0 (xbt []) (xce []))) w))::[])) (by kernel_rfl) ⟨h0,h1,h2,h3,h4,h5,h6,h7,rfl,rfl,rfl,rfl,rfl,rfl,rfl,rfl,rfl,trivial⟩
theorem Pq_ffftffff (w:List UInt8) (h0:(xam w [])=false) (h1:(Nat.ble 1 w.length)=true) (h2:(xae (Int.ofNat (yb w 0)) (Int.ofNat 1))=false) (h3:(xae (Int.ofNat (yb w 0)) (Int.ofNat 2))=false) (h4:(xae (Int.ofNat (yb w 0)) (Int.ofNat 3))=true) (h5:(xak (Int.ofNat w.length) (Int.ofNat 2))=false) (h6:(Nat.ble 2 w.length)=true) (h7:(!xae (Int.ofNat w.length) (xaf IntKind.i64 ((Int.ofNat 2).add (xaf IntKind.i64 ((xaf IntKind.i64 (Int.ofNat (yb w 1))).mul (Int.ofNat 4))))))=false) (h8:(w.length.beq 2)=false) (h9:(xae (Int.ofNat (yb w 0)) (Int.ofNat 2))=false) (h10:(Nat.beq 4 (xet (Int.ofNat (yb w 0))))=true) (h11:(w.length.ble 100000)=true) (h12:(w.length.beq (2+xee (Int.ofNat (yb w 0)) w*xet (Int.ofNat (yb w 0))))=true) (h13:(Nat.ble 1 (yc w))=true) (h14:(!xae (Int.ofNat (yb w 0)) (Int.ofNat 2))=true) (h15:(AV.plainL (yA w))=true) (h16:((0+kept (yc w)*1).ble (kept (yc w)))=true) (h17:(isU IntKind.u64 (xan (yA w) 0 (kept (yc w)*1)))=true) (h18:((xan (yA w) 0 (kept (yc w)*1)).length.beq (kept (yc w)))=true) (h19:((kept (yc w)).ble 1000000)=true) :
 ∃ h',xbl xmp 60 (Tgt.fn 61) [.str w] H0=some (AV.tuple [.agg [.int .u8 (Int.ofNat (yb w 0)), .int .u8 (Int.ofNat 0), .int .u8 (Int.ofNat 0), .int .u64 (Int.ofNat 0), .int .u8 (Int.ofNat 0), .slice (some (2,0)) (kept (yc w)) none, .slice none 0 (some 0)], .bool (xam (kept (xeb (Int.ofNat (yb w 0)) (Int.ofNat 0) (Int.ofNat 0) (Int.ofNat 0) (Int.ofNat 0) (kept (yc w)) 0 (xbt (xan (yA w) 0 (kept (yc w)*1))) (xce []))) w)],h')∧[2].map h'.get=[.cells true 22 (kept (yc w)) (yA w)] :=
 xaa (q:=qNs [1,3,0,10,1,1,0,5,1,1,1,1,1,3,0,1,1,1,1,1,1,1,1,1,17,0,0,0,0,0,9,0,32,0,0,8,0,0,0,23,0,17,0,17,0,0,0,0,0,0,0,17]) (c:=(cnF::cnT::cnF::cnF::cnT::cnF::cnF::cnF::cnF::cnF::cnT::cnF::cnF::cnF::cnF::cnF::cnF::cnF::Cnd.code (ZLT.lsumS (xbz tys) ((61,1),qqL).snd).fst (ZLT.lsumS (xbz tys) ((61,1),qqL).snd).fst::cnF::cnF::cnT::cnT::cnT::cnT::cnT::cnT::cnT::cnT::cnT::cnT::cnT::Cnd.same (AV.agg [AV.int IntKind.u8 (Int.ofNat (yb w 0)),AV.int IntKind.u8 (Int.ofNat 0),AV.int IntKind.u8 (Int.ofNat 0),AV.int IntKind.u64 (Int.ofNat 0),AV.int IntKind.u8 (Int.ofNat 0),AV.slice (some (2,0)) (kept (yc w)) none,AV.slice none 0 (some 0)]) (AV.agg [AV.int IntKind.u8 (Int.ofNat (yb w 0)),AV.int IntKind.u8 (Int.ofNat 0),AV.int IntKind.u8 (Int.ofNat 0),AV.int IntKind.u64 (Int.ofNat 0),AV.int IntKind.u8 (Int.ofNat 0),AV.slice (some (2,0)) (kept (yc w)) none,AV.slice none 0 (some 0)])::Cnd.same (AV.agg [AV.int IntKind.u8 (Int.ofNat (yb w 0)),AV.int IntKind.u8 (Int.ofNat 0),AV.int IntKind.u8 (Int.ofNat 0),AV.int IntKind.u64 (Int.ofNat 0),AV.int IntKind.u8 (Int.ofNat 0),AV.slice (some (2,0)) (kept (yc w)) none,AV.slice none 0 (some 0)]) (AV.agg [AV.int IntKind.u8 (Int.ofNat (yb w 0)),AV.int IntKind.u8 (Int.ofNat 0),AV.int IntKind.u8 (Int.ofNat 0),AV.int IntKind.u64 (Int.ofNat 0),AV.int IntKind.u8 (Int.ofNat 0),AV.slice (some (2,0)) (kept (yc w)) none,AV.slice none 0 (some 0)])::Cnd.same (AV.agg [AV.int IntKind.u8 (Int.ofNat (yb w 0)),AV.int IntKind.u8 (Int.ofNat 0),AV.int IntKind.u8 (Int.ofNat 0),AV.int IntKind.u64 (Int.ofNat 0),AV.int IntKind.u8 (Int.ofNat 0),AV.slice (some (2,0)) (kept (yc w)) none,AV.slice none 0 (some 0)]) (AV.agg [AV.int IntKind.u8 (Int.ofNat (yb w 0)),AV.int IntKind.u8 (Int.ofNat 0),AV.int IntKind.u8 (Int.ofNat 0),AV.int IntKind.u64 (Int.ofNat 0),AV.int IntKind.u8 (Int.ofNat 0),AV.slice (some (2,0)) (kept (yc w)) none,AV.slice none 0 (some 0)])::Cnd.same (AV.str w) (AV.str w)::Cnd.same (AV.str w) (AV.str w)::Cnd.same (AV.str w) (AV.str w)::Cnd.same (AV.bool (xam (kept (xeb (Int.ofNat (yb w 0)) (Int.ofNat 0) (Int.ofNat 0) (Int.ofNat 0) (Int.ofNat 0) (kept (yc w)) 0 (xbt (xan (yA w) 0 (kept (yc w)*1))) (xce []))) w)) (AV.bool (xam (kept (xeb (Int.ofNat (yb w 0)) (Int.ofNat 0) (Int.ofNat 0) (Int.ofNat 0) (Int.ofNat 0) (kept (yc w)) 0 (xbt (xan (yA w) 0 (kept (yc w)*1))) (xce []))) w))::Cnd.same (AV.bool (xam (kept (xeb (Int.ofNat (yb w 0)) (Int.ofNat 0) (Int.ofNat 0) (Int.ofNat 0) (Int.ofNat 0) (kept (yc w)) 0 (xbt (xan (yA w) 0 (kept (yc w)*1))) (xce []))) w)) (AV.bool (xam (kept (xeb (Int.ofNat (yb w 0)) (Int.ofNat 0) (Int.ofNat 0) (Int.ofNat 0) (Int.ofNat 0) (kept (yc w)) 0 (xbt (xan (yA w) 0 (kept (yc w)*1))) (xce []))) w))::Cnd.same (AV.bool (xam (kept (xeb (Int.ofNat (yb w 0)) (Int.ofNat 0) (Int.ofNat 0) (Int.ofNat 0) (Int.ofNat 0) (kept (yc w)) 0 (xbt (xan (yA w) 0 (kept (yc w)*1))) (xce []))) w)) (AV.bool (xam (kept (xeb (Int.ofNat (yb w 0)) (Int.ofNat 0) (Int.ofNat 0) (Int.ofNat 0) (Int.ofNat 0) (kept (yc w)) 0 (xbt (xan (yA w) 0 (kept (yc w)*1))) (xce []))) w))::[])) (by kernel_rfl) ⟨h0,h1,h2,h3,h4,h3,h5,h5,h5,h5,h6,h5,h5,h5,h5,h5,h5,h7,rfl,h8,h9,h10,h11,h12,h13,h14,h15,h16,h15,h17,h18,h19,rfl,rfl,rfl,rfl,rfl,rfl,rfl,rfl,rfl,trivial⟩
theorem Pq_fffffftt (w:List UInt8) (h0:(xam w [])=false) (h1:(Nat.ble 1 w.length)=true) (h2:(xae (Int.ofNat (yb w 0)) (Int.ofNat 1))=false) (h3:(xae (Int.ofNat (yb w 0)) (Int.ofNat 2))=false) (h4:(xae (Int.ofNat (yb w 0)) (Int.ofNat 3))=false) (h5:(xae (Int.ofNat (yb w 0)) (Int.ofNat 5))=false) (h6:(xae (Int.ofNat (yb w 0)) (Int.ofNat 6))=false) (h7:(xae (Int.ofNat (yb w 0)) (Int.ofNat 7))=true) (h8:(!xae (Int.ofNat w.length) (Int.ofNat 3))=true) :
 ∃ h',xbl xmp 60 (Tgt.fn 61) [.str w] H0=some (AV.tuple [.agg yZ, .bool false],h')∧[].map h'.get=[] :=
 xaa (q:=qNs [1,3,0,10,1,1,1,1,1,0,0,20]) (c:=(cnF::cnT::cnF::cnF::cnF::cnF::cnF::cnT::cnT::[])) (by kernel_rfl) ⟨h0,h1,h2,h3,h4,h5,h6,h7,h8,trivial⟩
theorem Pq_fffffftf (w:List UInt8) (h0:(xam w [])=false) (h1:(Nat.ble 1 w.length)=true) (h2:(xae (Int.ofNat (yb w 0)) (Int.ofNat 1))=false) (h3:(xae (Int.ofNat (yb w 0)) (Int.ofNat 2))=false) (h4:(xae (Int.ofNat (yb w 0)) (Int.ofNat 3))=false) (h5:(xae (Int.ofNat (yb w 0)) (Int.ofNat 5))=false) (h6:(xae (Int.ofNat (yb w 0)) (Int.ofNat 6))=false) (h7:(xae (Int.ofNat (yb w 0)) (Int.ofNat 7))=true) (h8:(!xae (Int.ofNat w.length) (Int.ofNat 3))=false) (h9:(Nat.ble 2 w.length)=true) (h10:(Nat.ble 3 w.length)=true) :
 ∃ h',xbl xmp 60 (Tgt.fn 61) [.str w] H0=some (AV.tuple [.agg [.int .u8 (Int.ofNat (yb w 0)), .int .u8 (Int.ofNat (yb w 1)), .int .u8 (Int.ofNat (yb w 2)), .int .u64 (Int.ofNat 0), .int .u8 (Int.ofNat 0), .slice none 0 (some 0), .slice none 0 (some 0)], .bool (xam (kept (xeb (Int.ofNat (yb w 0)) (Int.ofNat (yb w 1)) (Int.ofNat (yb w 2)) (Int.ofNat 0) (Int.ofNat 0) 0 0 (xbt []) (xce []))) w)],h')∧[].map h'.get=[] :=
 xaa (q:=qNs [1,3,0,10,1,1,1,1,1,0,1,3,0,6,0,65,0,17,0,17,0,0,0,0,0,0,0,17]) (c:=(cnF::cnT::cnF::cnF::cnF::cnF::cnF::cnT::cnF::cnT::cnT::Cnd.same (AV.agg [AV.int IntKind.u8 (Int.ofNat (yb w 0)),AV.int IntKind.u8 (Int.ofNat (yb w 1)),AV.int IntKind.u8 (Int.ofNat (yb w 2)),AV.int IntKind.u64 (Int.ofNat 0),AV.int IntKind.u8 (Int.ofNat 0),AV.slice none 0 (some 0),AV.slice none 0 (some 0)]) (AV.agg [AV.int IntKind.u8 (Int.ofNat (yb w 0)),AV.int IntKind.u8 (Int.ofNat (yb w 1)),AV.int IntKind.u8 (Int.ofNat (yb w 2)),AV.int IntKind.u64 (Int.ofNat 0),AV.int IntKind.u8 (Int.ofNat 0),AV.slice none 0 (some 0),AV.slice none 0 (some 0)])::Cnd.same (AV.agg [AV.int IntKind.u8 (Int.ofNat (yb w 0)),AV.int IntKind.u8 (Int.ofNat (yb w 1)),AV.int IntKind.u8 (Int.ofNat (yb w 2)),AV.int IntKind.u64 (Int.ofNat 0),AV.int IntKind.u8 (Int.ofNat 0),AV.slice none 0 (some 0),AV.slice none 0 (some 0)]) (AV.agg [AV.int IntKind.u8 (Int.ofNat (yb w 0)),AV.int IntKind.u8 (Int.ofNat (yb w 1)),AV.int IntKind.u8 (Int.ofNat (yb w 2)),AV.int IntKind.u64 (Int.ofNat 0),AV.int IntKind.u8 (Int.ofNat 0),AV.slice none 0 (some 0),AV.slice none 0 (some 0)])::Cnd.same (AV.agg [AV.int IntKind.u8 (Int.ofNat (yb w 0)),AV.int IntKind.u8 (Int.ofNat (yb w 1)),AV.int IntKind.u8 (Int.ofNat (yb w 2)),AV.int IntKind.u64 (Int.ofNat 0),AV.int IntKind.u8 (Int.ofNat 0),AV.slice none 0 (some 0),AV.slice none 0 (some 0)]) (AV.agg [AV.int IntKind.u8 (Int.ofNat (yb w 0)),AV.int IntKind.u8 (Int.ofNat (yb w 1)),AV.int IntKind.u8 (Int.ofNat (yb w 2)),AV.int IntKind.u64 (Int.ofNat 0),AV.int IntKind.u8 (Int.ofNat 0),AV.slice none 0 (some 0),AV.slice none 0 (some 0)])::Cnd.same (AV.str w) (AV.str w)::Cnd.same (AV.str w) (AV.str w)::Cnd.same (AV.str w) (AV.str w)::Cnd.same (AV.bool (xam (kept (xeb (Int.ofNat (yb w 0)) (Int.ofNat (yb w 1)) (Int.ofNat (yb w 2)) (Int.ofNat 0) (Int.ofNat 0) 0 0 (xbt []) (xce []))) w)) (AV.bool (xam (kept (xeb (Int.ofNat (yb w 0)) (Int.ofNat (yb w 1)) (Int.ofNat (yb w 2)) (Int.ofNat 0) (Int.ofNat 0) 0 0 (xbt []) (xce []))) w))::Cnd.same (AV.bool (xam (kept (xeb (Int.ofNat (yb w 0)) (Int.ofNat (yb w 1)) (Int.ofNat (yb w 2)) (Int.ofNat 0) (Int.ofNat 0) 0 0 (xbt []) (xce []))) w)) (AV.bool (xam (kept (xeb (Int.ofNat (yb w 0)) (Int.ofNat (yb w 1)) (Int.ofNat (yb w 2)) (Int.ofNat 0) (Int.ofNat 0) 0 0 (xbt []) (xce []))) w))::Cnd.same (AV.bool (xam (kept (xeb (Int.ofNat (yb w 0)) (Int.ofNat (yb w 1)) (Int.ofNat (yb w 2)) (Int.ofNat 0) (Int.ofNat 0) 0 0 (xbt []) (xce []))) w)) (AV.bool (xam (kept (xeb (Int.ofNat (yb w 0)) (Int.ofNat (yb w 1)) (Int.ofNat (yb w 2)) (Int.ofNat 0) (Int.ofNat 0) 0 0 (xbt []) (xce []))) w))::[])) (by kernel_rfl) ⟨h0,h1,h2,h3,h4,h5,h6,h7,h8,h9,h10,rfl,rfl,rfl,rfl,rfl,rfl,rfl,rfl,rfl,trivial⟩
abbrev VDd (w:List UInt8):AV:=(.tuple [.agg [.int .u8 (Int.ofNat (dOp w)), .int .u8 (Int.ofNat (xis w)), .int .u8 (Int.ofNat (dPl w)), .int .u64 (Int.ofNat (dFi w)), .int .u8 (Int.ofNat (dCt w)), .fsl (xgh (dA w).length) (dA w).length (xbs .u64 (dA w)), .fsl (xgh (dD w).length) (dD w).length (encS (dD w))], .bool (dOK w)])
def xni (w:List UInt8):Prop:=∃ (f:Nat) (v0:AV) (h':xas) (c2:List Bool),xbl xmp f (.fn 61) [.str w] H0=some (v0,h')∧zQ (xcc xmp) h' v0=some (c2,VDd w)∧xav c2=true
theorem PS:(∀ k l,AV.plainL (xbs k l)=true)∧(∀ l,AV.plainL (encS l)=true)∧(∀ k l,isU k (xbs k l)=true)∧(∀ l,isS (encS l)=true)∧(∀ k l,(xbs k l).length=l.length)∧(∀ l,(encS l).length=l.length)∧(∀ n,Nat.beq n n=true)∧(∀ n,Nat.ble n n=true)∧((!true)=false)∧((!false)=true)∧(∀ k n,(AV.int k n).intOf=n)∧(∀ w i,yb w i=byD w i)∧(∀ k l,xbt (xbs k l)=l)∧(∀ l,xce (encS l)=l) :=
 ⟨xaw,xbm,isU_encU,fun l=>xcx.2 ⟨_,rfl⟩,xag,xaq,Nat.beq_refl,fun n=>Nat.ble_eq_true_of_le (Nat.le_refl n),rfl,rfl,fun _ _=>rfl,yb_eq,xba,xcn⟩
theorem szU':xcc xmp 22=1:=by kernel_rfl
theorem szS':xcc xmp 9=1:=by kernel_rfl
set_option maxHeartbeats 4000000 in
theorem doc_1 (w:List UInt8) (hN:w.length ≤ 100000) (hw:w ≠ []) (ho:byD w 0=1):xni w:=by
 have n0:xam w []=false:=by rw [xcm];exact beq_eq_false_iff_ne.2 hw
 have w1:1 ≤ w.length:=by cases w with | nil=>exact absurd rfl hw | cons=>simp
 have o1:xae (Int.ofNat (byD w 0)) (Int.ofNat 1)=true:=by rw [ho];rfl
 by_cases hl:w.length=6
 · have l6:xae (Int.ofNat w.length) (Int.ofNat 6)=true:=by rw [hl];rfl
   have key:=Pq_ftf w
   iterate 7
    replace key:=key (by
     (try simp only [PS,yc,yA,yD,yZ,xab,Nat.zero_add,Nat.mul_one,n0,o1,l6])
     first
      | done
      | with_reducible rfl
      | with_reducible assumption
      | (rw [xbq];exact decide_eq_true (by omega))
      | (rw [xbn];exact decide_eq_true (by omega))
      | (rw [xat];exact decide_eq_true (Int.ofNat_lt.2 (by have:=(nuB (List.drop 1 w)).toNat_lt;unfold xdb;omega))))
   obtain ⟨h',h,hb⟩:=key
   simp only [PS,yc,yA,yD,yZ,xab,Nat.zero_add,Nat.mul_one,n0,o1,l6,List.map_cons,List.map_nil] at h hb
   have eS:dS w=⟨false,byD w 0,0,0,xdb (w.drop 1),byD w 5,[],[]⟩:=by unfold dS;rw [if_neg hw,if_pos ho,if_pos hl,ho]
   unfold xni;unfold VDd dOp xis dPl dFi dCt dA dD dOK dB;rw [eS]
   exact ⟨60,_,h',[],h,rfl,rfl⟩
 · have l6:xae (Int.ofNat w.length) (Int.ofNat 6)=false:=by rw [xaz];exact beq_eq_false_iff_ne.2 (fun h=>hl (by injection h))
   have key:=Pq_ftt w
   iterate 4
    replace key:=key (by
     (try simp only [PS,yc,yA,yD,yZ,xab,Nat.zero_add,Nat.mul_one,n0,o1,l6])
     first
      | done
      | with_reducible rfl
      | with_reducible assumption
      | (rw [xbq];exact decide_eq_true (by omega))
      | (rw [xbn];exact decide_eq_true (by omega))
      | (rw [xat];exact decide_eq_true (Int.ofNat_lt.2 (by have:=(nuB (List.drop 1 w)).toNat_lt;unfold xdb;omega))))
   obtain ⟨h',h,hb⟩:=key
   simp only [PS,yc,yA,yD,yZ,xab,Nat.zero_add,Nat.mul_one,n0,o1,l6,List.map_cons,List.map_nil] at h hb
   have eS:dS w=dZ0:=by unfold dS;rw [if_neg hw,if_pos ho,if_neg hl]
   unfold xni;unfold VDd dOp xis dPl dFi dCt dA dD dOK dB;rw [eS]
   exact ⟨60,_,h',[],h,rfl,rfl⟩
set_option maxHeartbeats 4000000 in
theorem doc_5 (w:List UInt8) (hN:w.length ≤ 100000) (hw:w ≠ []) (ho:byD w 0=5):xni w:=by
 have n0:xam w []=false:=by rw [xcm];exact beq_eq_false_iff_ne.2 hw
 have w1:1 ≤ w.length:=by cases w with | nil=>exact absurd rfl hw | cons=>simp
 have o1:xae (Int.ofNat (byD w 0)) (Int.ofNat 1)=false:=by rw [xaz];exact beq_eq_false_iff_ne.2 (fun h=>by simp only [Int.ofNat_eq_natCast] at h;omega)
 have o2:xae (Int.ofNat (byD w 0)) (Int.ofNat 2)=false:=by rw [xaz];exact beq_eq_false_iff_ne.2 (fun h=>by simp only [Int.ofNat_eq_natCast] at h;omega)
 have o3:xae (Int.ofNat (byD w 0)) (Int.ofNat 3)=false:=by rw [xaz];exact beq_eq_false_iff_ne.2 (fun h=>by simp only [Int.ofNat_eq_natCast] at h;omega)
 have o5:xae (Int.ofNat (byD w 0)) (Int.ofNat 5)=true:=by rw [ho];rfl
 by_cases hl:w.length=3
 · have l6:xae (Int.ofNat w.length) (Int.ofNat 3)=true:=by rw [hl];rfl
   have key:=Pq_fffftf w
   iterate 9
    replace key:=key (by
     (try simp only [PS,yc,yA,yD,yZ,xab,Nat.zero_add,Nat.mul_one,n0,l6,o1,o2,o3,o5])
     first
      | done
      | with_reducible rfl
      | with_reducible assumption
      | (rw [xbq];exact decide_eq_true (by omega))
      | (rw [xbn];exact decide_eq_true (by omega))
      | (rw [xat];exact decide_eq_true (Int.ofNat_lt.2 (by have:=(nuB (List.drop 1 w)).toNat_lt;unfold xdb;omega))))
   obtain ⟨h',h,hb⟩:=key
   simp only [PS,yc,yA,yD,yZ,xab,Nat.zero_add,Nat.mul_one,n0,l6,o1,o2,o3,o5,List.map_cons,List.map_nil] at h hb
   have eS:dS w=⟨false,byD w 0,byD w 1,byD w 2,0,0,[],[]⟩:=by unfold dS;rw [if_neg hw,if_neg (show byD w 0 ≠ 1 by omega),if_neg (show ¬(byD w 0=2 ∨ byD w 0=3) by omega),if_pos (show byD w 0=5 ∨ byD w 0=6 ∨ byD w 0=7 by omega),if_pos hl]
   unfold xni;unfold VDd dOp xis dPl dFi dCt dA dD dOK dB;rw [eS]
   exact ⟨60,_,h',[],h,rfl,rfl⟩
 · have l6:xae (Int.ofNat w.length) (Int.ofNat 3)=false:=by rw [xaz];exact beq_eq_false_iff_ne.2 (fun h=>hl (by injection h))
   have key:=Pq_fffftt w
   iterate 7
    replace key:=key (by
     (try simp only [PS,yc,yA,yD,yZ,xab,Nat.zero_add,Nat.mul_one,n0,l6,o1,o2,o3,o5])
     first
      | done
      | with_reducible rfl
      | with_reducible assumption
      | (rw [xbq];exact decide_eq_true (by omega))
      | (rw [xbn];exact decide_eq_true (by omega))
      | (rw [xat];exact decide_eq_true (Int.ofNat_lt.2 (by have:=(nuB (List.drop 1 w)).toNat_lt;unfold xdb;omega))))
   obtain ⟨h',h,hb⟩:=key
   simp only [PS,yc,yA,yD,yZ,xab,Nat.zero_add,Nat.mul_one,n0,l6,o1,o2,o3,o5,List.map_cons,List.map_nil] at h hb
   have eS:dS w=dZ0:=by unfold dS;rw [if_neg hw,if_neg (show byD w 0 ≠ 1 by omega),if_neg (show ¬(byD w 0=2 ∨ byD w 0=3) by omega),if_pos (show byD w 0=5 ∨ byD w 0=6 ∨ byD w 0=7 by omega),if_neg hl]
   unfold xni;unfold VDd dOp xis dPl dFi dCt dA dD dOK dB;rw [eS]
   exact ⟨60,_,h',[],h,rfl,rfl⟩
set_option maxHeartbeats 4000000 in
theorem doc_6 (w:List UInt8) (hN:w.length ≤ 100000) (hw:w ≠ []) (ho:byD w 0=6):xni w:=by
 have n0:xam w []=false:=by rw [xcm];exact beq_eq_false_iff_ne.2 hw
 have w1:1 ≤ w.length:=by cases w with | nil=>exact absurd rfl hw | cons=>simp
 have o1:xae (Int.ofNat (byD w 0)) (Int.ofNat 1)=false:=by rw [xaz];exact beq_eq_false_iff_ne.2 (fun h=>by simp only [Int.ofNat_eq_natCast] at h;omega)
 have o2:xae (Int.ofNat (byD w 0)) (Int.ofNat 2)=false:=by rw [xaz];exact beq_eq_false_iff_ne.2 (fun h=>by simp only [Int.ofNat_eq_natCast] at h;omega)
 have o3:xae (Int.ofNat (byD w 0)) (Int.ofNat 3)=false:=by rw [xaz];exact beq_eq_false_iff_ne.2 (fun h=>by simp only [Int.ofNat_eq_natCast] at h;omega)
 have o5:xae (Int.ofNat (byD w 0)) (Int.ofNat 5)=false:=by rw [xaz];exact beq_eq_false_iff_ne.2 (fun h=>by simp only [Int.ofNat_eq_natCast] at h;omega)
 have o6:xae (Int.ofNat (byD w 0)) (Int.ofNat 6)=true:=by rw [ho];rfl
 by_cases hl:w.length=3
 · have l6:xae (Int.ofNat w.length) (Int.ofNat 3)=true:=by rw [hl];rfl
   have key:=Pq_ffffftf w
   iterate 10
    replace key:=key (by
     (try simp only [PS,yc,yA,yD,yZ,xab,Nat.zero_add,Nat.mul_one,n0,l6,o1,o2,o3,o5,o6])
     first
      | done
      | with_reducible rfl
      | with_reducible assumption
      | (rw [xbq];exact decide_eq_true (by omega))
      | (rw [xbn];exact decide_eq_true (by omega))
      | (rw [xat];exact decide_eq_true (Int.ofNat_lt.2 (by have:=(nuB (List.drop 1 w)).toNat_lt;unfold xdb;omega))))
   obtain ⟨h',h,hb⟩:=key
   simp only [PS,yc,yA,yD,yZ,xab,Nat.zero_add,Nat.mul_one,n0,l6,o1,o2,o3,o5,o6,List.map_cons,List.map_nil] at h hb
   have eS:dS w=⟨false,byD w 0,byD w 1,byD w 2,0,0,[],[]⟩:=by unfold dS;rw [if_neg hw,if_neg (show byD w 0 ≠ 1 by omega),if_neg (show ¬(byD w 0=2 ∨ byD w 0=3) by omega),if_pos (show byD w 0=5 ∨ byD w 0=6 ∨ byD w 0=7 by omega),if_pos hl]
   unfold xni;unfold VDd dOp xis dPl dFi dCt dA dD dOK dB;rw [eS]
   exact ⟨60,_,h',[],h,rfl,rfl⟩
 · have l6:xae (Int.ofNat w.length) (Int.ofNat 3)=false:=by rw [xaz];exact beq_eq_false_iff_ne.2 (fun h=>hl (by injection h))
   have key:=Pq_ffffftt w
   iterate 8
    replace key:=key (by
     (try simp only [PS,yc,yA,yD,yZ,xab,Nat.zero_add,Nat.mul_one,n0,l6,o1,o2,o3,o5,o6])
     first
      | done
      | with_reducible rfl
      | with_reducible assumption
      | (rw [xbq];exact decide_eq_true (by omega))
      | (rw [xbn];exact decide_eq_true (by omega))
      | (rw [xat];exact decide_eq_true (Int.ofNat_lt.2 (by have:=(nuB (List.drop 1 w)).toNat_lt;unfold xdb;omega))))
   obtain ⟨h',h,hb⟩:=key
   simp only [PS,yc,yA,yD,yZ,xab,Nat.zero_add,Nat.mul_one,n0,l6,o1,o2,o3,o5,o6,List.map_cons,List.map_nil] at h hb
   have eS:dS w=dZ0:=by unfold dS;rw [if_neg hw,if_neg (show byD w 0 ≠ 1 by omega),if_neg (show ¬(byD w 0=2 ∨ byD w 0=3) by omega),if_pos (show byD w 0=5 ∨ byD w 0=6 ∨ byD w 0=7 by omega),if_neg hl]
   unfold xni;unfold VDd dOp xis dPl dFi dCt dA dD dOK dB;rw [eS]
   exact ⟨60,_,h',[],h,rfl,rfl⟩
set_option maxHeartbeats 4000000 in
theorem doc_7 (w:List UInt8) (hN:w.length ≤ 100000) (hw:w ≠ []) (ho:byD w 0=7):xni w:=by
 have n0:xam w []=false:=by rw [xcm];exact beq_eq_false_iff_ne.2 hw
 have w1:1 ≤ w.length:=by cases w with | nil=>exact absurd rfl hw | cons=>simp
 have o1:xae (Int.ofNat (byD w 0)) (Int.ofNat 1)=false:=by rw [xaz];exact beq_eq_false_iff_ne.2 (fun h=>by simp only [Int.ofNat_eq_natCast] at h;omega)
 have o2:xae (Int.ofNat (byD w 0)) (Int.ofNat 2)=false:=by rw [xaz];exact beq_eq_false_iff_ne.2 (fun h=>by simp only [Int.ofNat_eq_natCast] at h;omega)
 have o3:xae (Int.ofNat (byD w 0)) (Int.ofNat 3)=false:=by rw [xaz];exact beq_eq_false_iff_ne.2 (fun h=>by simp only [Int.ofNat_eq_natCast] at h;omega)
 have o5:xae (Int.ofNat (byD w 0)) (Int.ofNat 5)=false:=by rw [xaz];exact beq_eq_false_iff_ne.2 (fun h=>by simp only [Int.ofNat_eq_natCast] at h;omega)
 have o6:xae (Int.ofNat (byD w 0)) (Int.ofNat 6)=false:=by rw [xaz];exact beq_eq_false_iff_ne.2 (fun h=>by simp only [Int.ofNat_eq_natCast] at h;omega)
 have o7:xae (Int.ofNat (byD w 0)) (Int.ofNat 7)=true:=by rw [ho];rfl
 by_cases hl:w.length=3
 · have l6:xae (Int.ofNat w.length) (Int.ofNat 3)=true:=by rw [hl];rfl
   have key:=Pq_fffffftf w
   iterate 11
    replace key:=key (by
     (try simp only [PS,yc,yA,yD,yZ,xab,Nat.zero_add,Nat.mul_one,n0,l6,o1,o2,o3,o5,o6,o7])
     first
      | done
      | with_reducible rfl
      | with_reducible assumption
      | (rw [xbq];exact decide_eq_true (by omega))
      | (rw [xbn];exact decide_eq_true (by omega))
      | (rw [xat];exact decide_eq_true (Int.ofNat_lt.2 (by have:=(nuB (List.drop 1 w)).toNat_lt;unfold xdb;omega))))
   obtain ⟨h',h,hb⟩:=key
   simp only [PS,yc,yA,yD,yZ,xab,Nat.zero_add,Nat.mul_one,n0,l6,o1,o2,o3,o5,o6,o7,List.map_cons,List.map_nil] at h hb
   have eS:dS w=⟨false,byD w 0,byD w 1,byD w 2,0,0,[],[]⟩:=by unfold dS;rw [if_neg hw,if_neg (show byD w 0 ≠ 1 by omega),if_neg (show ¬(byD w 0=2 ∨ byD w 0=3) by omega),if_pos (show byD w 0=5 ∨ byD w 0=6 ∨ byD w 0=7 by omega),if_pos hl]
   unfold xni;unfold VDd dOp xis dPl dFi dCt dA dD dOK dB;rw [eS]
   exact ⟨60,_,h',[],h,rfl,rfl⟩
 · have l6:xae (Int.ofNat w.length) (Int.ofNat 3)=false:=by rw [xaz];exact beq_eq_false_iff_ne.2 (fun h=>hl (by injection h))
   have key:=Pq_fffffftt w
   iterate 9
    replace key:=key (by
     (try simp only [PS,yc,yA,yD,yZ,xab,Nat.zero_add,Nat.mul_one,n0,l6,o1,o2,o3,o5,o6,o7])
     first
      | done
      | with_reducible rfl
      | with_reducible assumption
      | (rw [xbq];exact decide_eq_true (by omega))
      | (rw [xbn];exact decide_eq_true (by omega))
      | (rw [xat];exact decide_eq_true (Int.ofNat_lt.2 (by have:=(nuB (List.drop 1 w)).toNat_lt;unfold xdb;omega))))
   obtain ⟨h',h,hb⟩:=key
   simp only [PS,yc,yA,yD,yZ,xab,Nat.zero_add,Nat.mul_one,n0,l6,o1,o2,o3,o5,o6,o7,List.map_cons,List.map_nil] at h hb
   have eS:dS w=dZ0:=by unfold dS;rw [if_neg hw,if_neg (show byD w 0 ≠ 1 by omega),if_neg (show ¬(byD w 0=2 ∨ byD w 0=3) by omega),if_pos (show byD w 0=5 ∨ byD w 0=6 ∨ byD w 0=7 by omega),if_neg hl]
   unfold xni;unfold VDd dOp xis dPl dFi dCt dA dD dOK dB;rw [eS]
   exact ⟨60,_,h',[],h,rfl,rfl⟩
set_option maxHeartbeats 4000000 in
theorem doc_0 (w:List UInt8) (hN:w.length ≤ 100000) (hw:w ≠ []) (ho:byD w 0 ≠ 1∧byD w 0 ≠ 2∧byD w 0 ≠ 3∧byD w 0 ≠ 5∧byD w 0 ≠ 6∧byD w 0 ≠ 7):xni w:=by
 have n0:xam w []=false:=by rw [xcm];exact beq_eq_false_iff_ne.2 hw
 have w1:1 ≤ w.length:=by cases w with | nil=>exact absurd rfl hw | cons=>simp
 have o1:xae (Int.ofNat (byD w 0)) (Int.ofNat 1)=false:=by rw [xaz];exact beq_eq_false_iff_ne.2 (fun h=>by simp only [Int.ofNat_eq_natCast] at h;omega)
 have o2:xae (Int.ofNat (byD w 0)) (Int.ofNat 2)=false:=by rw [xaz];exact beq_eq_false_iff_ne.2 (fun h=>by simp only [Int.ofNat_eq_natCast] at h;omega)
 have o3:xae (Int.ofNat (byD w 0)) (Int.ofNat 3)=false:=by rw [xaz];exact beq_eq_false_iff_ne.2 (fun h=>by simp only [Int.ofNat_eq_natCast] at h;omega)
 have o5:xae (Int.ofNat (byD w 0)) (Int.ofNat 5)=false:=by rw [xaz];exact beq_eq_false_iff_ne.2 (fun h=>by simp only [Int.ofNat_eq_natCast] at h;omega)
 have o6:xae (Int.ofNat (byD w 0)) (Int.ofNat 6)=false:=by rw [xaz];exact beq_eq_false_iff_ne.2 (fun h=>by simp only [Int.ofNat_eq_natCast] at h;omega)
 have o7:xae (Int.ofNat (byD w 0)) (Int.ofNat 7)=false:=by rw [xaz];exact beq_eq_false_iff_ne.2 (fun h=>by simp only [Int.ofNat_eq_natCast] at h;omega)
 have key:=Pq_fffffff w
 iterate 8
  replace key:=key (by
   (try simp only [PS,yc,yA,yD,yZ,xab,Nat.zero_add,Nat.mul_one,n0,o1,o2,o3,o5,o6,o7])
   first
    | done
    | with_reducible rfl
    | with_reducible assumption
    | (rw [xbq];exact decide_eq_true (by omega))
    | (rw [xbn];exact decide_eq_true (by omega))
    | (rw [xat];exact decide_eq_true (Int.ofNat_lt.2 (by have:=(nuB (List.drop 1 w)).toNat_lt;unfold xdb;omega))))
 obtain ⟨h',h,hb⟩:=key
 simp only [PS,yc,yA,yD,yZ,xab,Nat.zero_add,Nat.mul_one,n0,o1,o2,o3,o5,o6,o7,List.map_cons,List.map_nil] at h hb
 have eS:dS w=⟨false,byD w 0,0,0,0,0,[],[]⟩:=by unfold dS;rw [if_neg hw,if_neg (show byD w 0 ≠ 1 by omega),if_neg (show ¬(byD w 0=2 ∨ byD w 0=3) by omega),if_neg (show ¬(byD w 0=5 ∨ byD w 0=6 ∨ byD w 0=7) by omega)]
 unfold xni;unfold VDd dOp xis dPl dFi dCt dA dD dOK dB;rw [eS]
 exact ⟨60,_,h',[],h,rfl,rfl⟩
set_option maxHeartbeats 4000000 in
theorem doc_2 (w:List UInt8) (hN:w.length ≤ 100000) (hw:w ≠ []) (ho:byD w 0=2):xni w:=by
 have n0:xam w []=false:=by rw [xcm];exact beq_eq_false_iff_ne.2 hw
 have w1:1 ≤ w.length:=by cases w with | nil=>exact absurd rfl hw | cons=>simp
 have o1:xae (Int.ofNat (byD w 0)) (Int.ofNat 1)=false:=by rw [xaz];exact beq_eq_false_iff_ne.2 (fun h=>by simp only [Int.ofNat_eq_natCast] at h;omega)
 have o2:xae (Int.ofNat (byD w 0)) (Int.ofNat 2)=true:=by rw [ho];rfl
 have sz:xet (Int.ofNat (byD w 0))=444:=by rw [ho];rfl
 have sz':Nat.beq 444 (xet (Int.ofNat (byD w 0)))=true:=by rw [sz];rfl
 have bm:byD w 1 < 256:=((w[1]?).getD 0).toNat_lt
 have wm:xaf IntKind.i64 (Int.ofNat (byD w 1))=Int.ofNat (byD w 1):=xbe .i64 (byD w 1) (by show _ < 9223372036854775808;omega)
 have ws:xaf IntKind.i64 ((Int.ofNat 2).add (xaf IntKind.i64 ((Int.ofNat (byD w 1)).mul (Int.ofNat 444))))=Int.ofNat (2+byD w 1*444):=by
  have e1:xaf IntKind.i64 ((Int.ofNat (byD w 1)).mul (Int.ofNat 444))=Int.ofNat (byD w 1*444):=xbe .i64 (byD w 1*444) (by show _ < 9223372036854775808;omega)
  rw [e1]
  exact xbe .i64 (2+byD w 1*444) (by show _ < 9223372036854775808;omega)
 by_cases h2:w.length < 2
 · have l2:xak (Int.ofNat w.length) (Int.ofNat 2)=true:=by rw [xat];exact decide_eq_true (Int.ofNat_lt.2 h2)
   have key:=Pq_fftt w
   iterate 5
    replace key:=key (by
     (try simp only [PS,yc,yA,yD,yZ,xab,Nat.zero_add,Nat.mul_one,n0,l2,wm,ws,sz',o1,o2])
     first
      | done
      | with_reducible rfl
      | with_reducible assumption
      | (rw [xbq];exact decide_eq_true (by omega))
      | (rw [xbn];exact decide_eq_true (by omega))
      | (rw [xat];exact decide_eq_true (Int.ofNat_lt.2 (by have:=(nuB (List.drop 1 w)).toNat_lt;unfold xdb;omega))))
   obtain ⟨h',h,hb⟩:=key
   simp only [PS,yc,yA,yD,yZ,xab,Nat.zero_add,Nat.mul_one,n0,l2,wm,ws,sz',o1,o2,List.map_cons,List.map_nil] at h hb
   have eS:dS w=dZ0:=by unfold dS;rw [if_neg hw,if_neg (show byD w 0 ≠ 1 by omega),if_pos (show byD w 0=2 ∨ byD w 0=3 by omega),if_neg (by omega)]
   unfold xni;unfold VDd dOp xis dPl dFi dCt dA dD dOK dB;rw [eS]
   exact ⟨60,_,h',[],h,rfl,rfl⟩
 have l2:xak (Int.ofNat w.length) (Int.ofNat 2)=false:=by rw [xat];exact decide_eq_false (fun h=>h2 (Int.ofNat_lt.1 h))
 by_cases hl:w.length=2+byD w 1*444
 case neg =>
  have l6:xae (Int.ofNat w.length) (Int.ofNat (2+byD w 1*444))=false:=by rw [xaz];exact beq_eq_false_iff_ne.2 (fun h=>hl (by injection h))
  have key:=Pq_fftft w
  iterate 7
   replace key:=key (by
    (try simp only [PS,yc,yA,yD,yZ,xab,Nat.zero_add,Nat.mul_one,n0,l2,wm,ws,sz',o1,o2,l6])
    first
     | done
     | with_reducible rfl
     | with_reducible assumption
     | (rw [xbq];exact decide_eq_true (by omega))
     | (rw [xbn];exact decide_eq_true (by omega))
     | (rw [xat];exact decide_eq_true (Int.ofNat_lt.2 (by have:=(nuB (List.drop 1 w)).toNat_lt;unfold xdb;omega))))
  obtain ⟨h',h,hb⟩:=key
  simp only [PS,yc,yA,yD,yZ,xab,Nat.zero_add,Nat.mul_one,n0,l2,wm,ws,sz',o1,o2,l6,List.map_cons,List.map_nil] at h hb
  have eS:dS w=dZ0:=by unfold dS;rw [if_neg hw,if_neg (show byD w 0 ≠ 1 by omega),if_pos (show byD w 0=2 ∨ byD w 0=3 by omega),if_neg (by rw [sz];omega)]
  unfold xni;unfold VDd dOp xis dPl dFi dCt dA dD dOK dB;rw [eS]
  exact ⟨60,_,h',[],h,rfl,rfl⟩
 have l6:xae (Int.ofNat w.length) (Int.ofNat (2+byD w 1*444))=true:=by rw [← hl,xaz];exact beq_self_eq_true _
 have cm:xee (Int.ofNat (byD w 0)) w=byD w 1:=by unfold xee;rw [sz,hl,Nat.add_sub_cancel_left];exact Nat.mul_div_cancel _ (by decide)
 have la:(pA (Int.ofNat (byD w 0)) (List.drop 2 w) true (xee (Int.ofNat (byD w 0)) w)).length=xee (Int.ofNat (byD w 0)) w:=xgv _ _ _ _
 by_cases h0:w.length=2
 · have l0:Nat.beq w.length 2=true:=by rw [h0];rfl
   have m0:xee (Int.ofNat (byD w 0)) w=0:=by rw [cm];omega
   have key:=Pq_fftfft w
   iterate 8
    replace key:=key (by
     (try simp only [PS,yc,yA,yD,yZ,xab,Nat.zero_add,Nat.mul_one,n0,l2,wm,ws,sz',o1,o2,l6,l0])
     first
      | done
      | with_reducible rfl
      | with_reducible assumption
      | (rw [xbq];exact decide_eq_true (by omega))
      | (rw [xbn];exact decide_eq_true (by omega))
      | (rw [xat];exact decide_eq_true (Int.ofNat_lt.2 (by have:=(nuB (List.drop 1 w)).toNat_lt;unfold xdb;omega))))
   obtain ⟨h',h,hb⟩:=key
   simp only [PS,yc,yA,yD,yZ,xab,Nat.zero_add,Nat.mul_one,n0,l2,wm,ws,sz',o1,o2,l6,l0,List.map_cons,List.map_nil] at h hb
   have eS:dS w=⟨false,byD w 0,0,0,0,0,[],[]⟩:=by
    have hx:dS w=⟨false,byD w 0,0,0,0,0,pA (Int.ofNat (byD w 0)) (w.drop 2) true (xee (Int.ofNat (byD w 0)) w),pD (Int.ofNat (byD w 0)) (w.drop 2) true (xee (Int.ofNat (byD w 0)) w)⟩:=by unfold dS;rw [if_neg hw,if_neg (show byD w 0 ≠ 1 by omega),if_pos (show byD w 0=2 ∨ byD w 0=3 by omega),if_pos ⟨by omega,by rw [sz];exact hl⟩]
    rw [hx,m0];rfl
   unfold xni;unfold VDd dOp xis dPl dFi dCt dA dD dOK dB;rw [eS]
   exact ⟨60,_,h',[],h,rfl,rfl⟩
 have l0:Nat.beq w.length 2=false:=by rw [xbn];exact decide_eq_false h0
 have m1:1 ≤ xee (Int.ofNat (byD w 0)) w:=by rw [cm];omega
 have mb:xee (Int.ofNat (byD w 0)) w ≤ 255:=by rw [cm];omega
 have m1':Nat.ble 1 (xee (Int.ofNat (byD w 0)) w)=true:=Nat.ble_eq_true_of_le m1
 have hm0:Nat.beq (xee (Int.ofNat (byD w 0)) w) 0=false:=by rw [xbn];exact decide_eq_false (by omega)
 have lm:Nat.beq w.length (2+xee (Int.ofNat (byD w 0)) w*xet (Int.ofNat (byD w 0)))=true:=by rw [sz,cm,xbn];exact decide_eq_true hl
 have rca:xan (xbs .u64 (pA (Int.ofNat (byD w 0)) (List.drop 2 w) true (xee (Int.ofNat (byD w 0)) w))) 0 (xee (Int.ofNat (byD w 0)) w)=xbs .u64 (pA (Int.ofNat (byD w 0)) (List.drop 2 w) true (xee (Int.ofNat (byD w 0)) w)):=xdc _ _ (by rw [xag,la])
 have hi2:Int.ofNat (byD w 0)=2:=by rw [ho];rfl
 have ld:(pD (Int.ofNat (byD w 0)) (List.drop 2 w) true (xee (Int.ofNat (byD w 0)) w)).length=xee (Int.ofNat (byD w 0)) w:=by
  have:=xro (List.drop 2 w) true (xee (Int.ofNat (byD w 0)) w)
  rw [← hi2] at this;exact this
 have rcd:xan (encS (pD (Int.ofNat (byD w 0)) (List.drop 2 w) true (xee (Int.ofNat (byD w 0)) w))) 0 (xee (Int.ofNat (byD w 0)) w)=encS (pD (Int.ofNat (byD w 0)) (List.drop 2 w) true (xee (Int.ofNat (byD w 0)) w)):=xdc _ _ (by rw [xaq,ld])
 have key:=Pq_fftffft w
 iterate 21
  replace key:=key (by
   (try simp only [PS,yc,yA,yD,yZ,xab,Nat.zero_add,Nat.mul_one,n0,l2,wm,ws,sz',o1,o2,l6,l0,lm,m1',hm0,rca,rcd,la,ld])
   first
    | done
    | with_reducible rfl
    | with_reducible assumption
    | (rw [xbq];exact decide_eq_true (by omega))
    | (rw [xbn];exact decide_eq_true (by omega))
    | (rw [xat];exact decide_eq_true (Int.ofNat_lt.2 (by have:=(nuB (List.drop 1 w)).toNat_lt;unfold xdb;omega))))
 obtain ⟨h',h,hb⟩:=key
 simp only [PS,yc,yA,yD,yZ,xab,Nat.zero_add,Nat.mul_one,n0,l2,wm,ws,sz',o1,o2,l6,l0,lm,m1',hm0,rca,rcd,la,ld,List.map_cons,List.map_nil] at h hb
 have eS:dS w=⟨false,byD w 0,0,0,0,0,pA (Int.ofNat (byD w 0)) (w.drop 2) true (xee (Int.ofNat (byD w 0)) w),pD (Int.ofNat (byD w 0)) (w.drop 2) true (xee (Int.ofNat (byD w 0)) w)⟩:=by unfold dS;rw [if_neg hw,if_neg (show byD w 0 ≠ 1 by omega),if_pos (show byD w 0=2 ∨ byD w 0=3 by omega),if_pos ⟨by omega,by rw [sz];exact hl⟩]
 unfold xni;unfold VDd dOp xis dPl dFi dCt dA dD dOK dB;rw [eS]
 injection hb with g1 hb;injection hb with g2 _
 refine ⟨60,_,h',(true::Nat.ble (0+xee (Int.ofNat (byD w 0)) w*xcc xmp 22) (xee (Int.ofNat (byD w 0)) w)::xhu (xbs .u64 (pA (Int.ofNat (byD w 0)) (List.drop 2 w) true (xee (Int.ofNat (byD w 0)) w)))::true::Nat.ble (0+xee (Int.ofNat (byD w 0)) w*xcc xmp 9) (xee (Int.ofNat (byD w 0)) w)::xhu (encS (pD (Int.ofNat (byD w 0)) (List.drop 2 w) true (xee (Int.ofNat (byD w 0)) w)))::[]),h,?_,?_⟩
 · simp only [zQ,zS,zL,z1,xdl,g1,g2]
   simp only [szU',szS',Nat.mul_one,List.nil_append,List.append_nil,List.cons_append]
   rw [rca,rcd]
   simp only [la,ld,xgh,hm0]
   rfl
 · simp only [szU',szS',Nat.mul_one,Nat.zero_add,xah,xgc,xgg,xbq,Nat.le_refl,decide_true,true_and];rfl
set_option maxHeartbeats 4000000 in
theorem doc_3 (w:List UInt8) (hN:w.length ≤ 100000) (hw:w ≠ []) (ho:byD w 0=3):xni w:=by
 have n0:xam w []=false:=by rw [xcm];exact beq_eq_false_iff_ne.2 hw
 have w1:1 ≤ w.length:=by cases w with | nil=>exact absurd rfl hw | cons=>simp
 have o1:xae (Int.ofNat (byD w 0)) (Int.ofNat 1)=false:=by rw [xaz];exact beq_eq_false_iff_ne.2 (fun h=>by simp only [Int.ofNat_eq_natCast] at h;omega)
 have o2:xae (Int.ofNat (byD w 0)) (Int.ofNat 2)=false:=by rw [xaz];exact beq_eq_false_iff_ne.2 (fun h=>by simp only [Int.ofNat_eq_natCast] at h;omega)
 have o3:xae (Int.ofNat (byD w 0)) (Int.ofNat 3)=true:=by rw [ho];rfl
 have sz:xet (Int.ofNat (byD w 0))=4:=by rw [ho];rfl
 have sz':Nat.beq 4 (xet (Int.ofNat (byD w 0)))=true:=by rw [sz];rfl
 have bm:byD w 1 < 256:=((w[1]?).getD 0).toNat_lt
 have wm:xaf IntKind.i64 (Int.ofNat (byD w 1))=Int.ofNat (byD w 1):=xbe .i64 (byD w 1) (by show _ < 9223372036854775808;omega)
 have ws:xaf IntKind.i64 ((Int.ofNat 2).add (xaf IntKind.i64 ((Int.ofNat (byD w 1)).mul (Int.ofNat 4))))=Int.ofNat (2+byD w 1*4):=by
  have e1:xaf IntKind.i64 ((Int.ofNat (byD w 1)).mul (Int.ofNat 4))=Int.ofNat (byD w 1*4):=xbe .i64 (byD w 1*4) (by show _ < 9223372036854775808;omega)
  rw [e1]
  exact xbe .i64 (2+byD w 1*4) (by show _ < 9223372036854775808;omega)
 by_cases h2:w.length < 2
 · have l2:xak (Int.ofNat w.length) (Int.ofNat 2)=true:=by rw [xat];exact decide_eq_true (Int.ofNat_lt.2 h2)
   have key:=Pq_ffftt w
   iterate 6
    replace key:=key (by
     (try simp only [PS,yc,yA,yD,yZ,xab,Nat.zero_add,Nat.mul_one,n0,l2,wm,ws,sz',o1,o2,o3])
     first
      | done
      | with_reducible rfl
      | with_reducible assumption
      | (rw [xbq];exact decide_eq_true (by omega))
      | (rw [xbn];exact decide_eq_true (by omega))
      | (rw [xat];exact decide_eq_true (Int.ofNat_lt.2 (by have:=(nuB (List.drop 1 w)).toNat_lt;unfold xdb;omega))))
   obtain ⟨h',h,hb⟩:=key
   simp only [PS,yc,yA,yD,yZ,xab,Nat.zero_add,Nat.mul_one,n0,l2,wm,ws,sz',o1,o2,o3,List.map_cons,List.map_nil] at h hb
   have eS:dS w=dZ0:=by unfold dS;rw [if_neg hw,if_neg (show byD w 0 ≠ 1 by omega),if_pos (show byD w 0=2 ∨ byD w 0=3 by omega),if_neg (by omega)]
   unfold xni;unfold VDd dOp xis dPl dFi dCt dA dD dOK dB;rw [eS]
   exact ⟨60,_,h',[],h,rfl,rfl⟩
 have l2:xak (Int.ofNat w.length) (Int.ofNat 2)=false:=by rw [xat];exact decide_eq_false (fun h=>h2 (Int.ofNat_lt.1 h))
 by_cases hl:w.length=2+byD w 1*4
 case neg =>
  have l6:xae (Int.ofNat w.length) (Int.ofNat (2+byD w 1*4))=false:=by rw [xaz];exact beq_eq_false_iff_ne.2 (fun h=>hl (by injection h))
  have key:=Pq_ffftft w
  iterate 8
   replace key:=key (by
    (try simp only [PS,yc,yA,yD,yZ,xab,Nat.zero_add,Nat.mul_one,n0,l2,wm,ws,sz',o1,o2,o3,l6])
    first
     | done
     | with_reducible rfl
     | with_reducible assumption
     | (rw [xbq];exact decide_eq_true (by omega))
     | (rw [xbn];exact decide_eq_true (by omega))
     | (rw [xat];exact decide_eq_true (Int.ofNat_lt.2 (by have:=(nuB (List.drop 1 w)).toNat_lt;unfold xdb;omega))))
  obtain ⟨h',h,hb⟩:=key
  simp only [PS,yc,yA,yD,yZ,xab,Nat.zero_add,Nat.mul_one,n0,l2,wm,ws,sz',o1,o2,o3,l6,List.map_cons,List.map_nil] at h hb
  have eS:dS w=dZ0:=by unfold dS;rw [if_neg hw,if_neg (show byD w 0 ≠ 1 by omega),if_pos (show byD w 0=2 ∨ byD w 0=3 by omega),if_neg (by rw [sz];omega)]
  unfold xni;unfold VDd dOp xis dPl dFi dCt dA dD dOK dB;rw [eS]
  exact ⟨60,_,h',[],h,rfl,rfl⟩
 have l6:xae (Int.ofNat w.length) (Int.ofNat (2+byD w 1*4))=true:=by rw [← hl,xaz];exact beq_self_eq_true _
 have cm:xee (Int.ofNat (byD w 0)) w=byD w 1:=by unfold xee;rw [sz,hl,Nat.add_sub_cancel_left];exact Nat.mul_div_cancel _ (by decide)
 have la:(pA (Int.ofNat (byD w 0)) (List.drop 2 w) true (xee (Int.ofNat (byD w 0)) w)).length=xee (Int.ofNat (byD w 0)) w:=xgv _ _ _ _
 by_cases h0:w.length=2
 · have l0:Nat.beq w.length 2=true:=by rw [h0];rfl
   have m0:xee (Int.ofNat (byD w 0)) w=0:=by rw [cm];omega
   have key:=Pq_ffftfft w
   iterate 9
    replace key:=key (by
     (try simp only [PS,yc,yA,yD,yZ,xab,Nat.zero_add,Nat.mul_one,n0,l2,wm,ws,sz',o1,o2,o3,l6,l0])
     first
      | done
      | with_reducible rfl
      | with_reducible assumption
      | (rw [xbq];exact decide_eq_true (by omega))
      | (rw [xbn];exact decide_eq_true (by omega))
      | (rw [xat];exact decide_eq_true (Int.ofNat_lt.2 (by have:=(nuB (List.drop 1 w)).toNat_lt;unfold xdb;omega))))
   obtain ⟨h',h,hb⟩:=key
   simp only [PS,yc,yA,yD,yZ,xab,Nat.zero_add,Nat.mul_one,n0,l2,wm,ws,sz',o1,o2,o3,l6,l0,List.map_cons,List.map_nil] at h hb
   have eS:dS w=⟨false,byD w 0,0,0,0,0,[],[]⟩:=by
    have hx:dS w=⟨false,byD w 0,0,0,0,0,pA (Int.ofNat (byD w 0)) (w.drop 2) true (xee (Int.ofNat (byD w 0)) w),pD (Int.ofNat (byD w 0)) (w.drop 2) true (xee (Int.ofNat (byD w 0)) w)⟩:=by unfold dS;rw [if_neg hw,if_neg (show byD w 0 ≠ 1 by omega),if_pos (show byD w 0=2 ∨ byD w 0=3 by omega),if_pos ⟨by omega,by rw [sz];exact hl⟩]
    rw [hx,m0];rfl
   unfold xni;unfold VDd dOp xis dPl dFi dCt dA dD dOK dB;rw [eS]
   exact ⟨60,_,h',[],h,rfl,rfl⟩
 have l0:Nat.beq w.length 2=false:=by rw [xbn];exact decide_eq_false h0
 have m1:1 ≤ xee (Int.ofNat (byD w 0)) w:=by rw [cm];omega
 have mb:xee (Int.ofNat (byD w 0)) w ≤ 255:=by rw [cm];omega
 have m1':Nat.ble 1 (xee (Int.ofNat (byD w 0)) w)=true:=Nat.ble_eq_true_of_le m1
 have hm0:Nat.beq (xee (Int.ofNat (byD w 0)) w) 0=false:=by rw [xbn];exact decide_eq_false (by omega)
 have lm:Nat.beq w.length (2+xee (Int.ofNat (byD w 0)) w*xet (Int.ofNat (byD w 0)))=true:=by rw [sz,cm,xbn];exact decide_eq_true hl
 have rca:xan (xbs .u64 (pA (Int.ofNat (byD w 0)) (List.drop 2 w) true (xee (Int.ofNat (byD w 0)) w))) 0 (xee (Int.ofNat (byD w 0)) w)=xbs .u64 (pA (Int.ofNat (byD w 0)) (List.drop 2 w) true (xee (Int.ofNat (byD w 0)) w)):=xdc _ _ (by rw [xag,la])
 have ld:pD (Int.ofNat (byD w 0)) (List.drop 2 w) true (xee (Int.ofNat (byD w 0)) w)=[]:=pD_nil (by rw [ho];decide) _ _ _
 have key:=Pq_ffftffff w
 iterate 20
  replace key:=key (by
   (try simp only [PS,yc,yA,yD,yZ,xab,Nat.zero_add,Nat.mul_one,n0,l2,wm,ws,sz',o1,o2,o3,l6,l0,lm,m1',hm0,rca,la,ld])
   first
    | done
    | with_reducible rfl
    | with_reducible assumption
    | (rw [xbq];exact decide_eq_true (by omega))
    | (rw [xbn];exact decide_eq_true (by omega))
    | (rw [xat];exact decide_eq_true (Int.ofNat_lt.2 (by have:=(nuB (List.drop 1 w)).toNat_lt;unfold xdb;omega))))
 obtain ⟨h',h,hb⟩:=key
 simp only [PS,yc,yA,yD,yZ,xab,Nat.zero_add,Nat.mul_one,n0,l2,wm,ws,sz',o1,o2,o3,l6,l0,lm,m1',hm0,rca,la,ld,List.map_cons,List.map_nil] at h hb
 have eS:dS w=⟨false,byD w 0,0,0,0,0,pA (Int.ofNat (byD w 0)) (w.drop 2) true (xee (Int.ofNat (byD w 0)) w),pD (Int.ofNat (byD w 0)) (w.drop 2) true (xee (Int.ofNat (byD w 0)) w)⟩:=by unfold dS;rw [if_neg hw,if_neg (show byD w 0 ≠ 1 by omega),if_pos (show byD w 0=2 ∨ byD w 0=3 by omega),if_pos ⟨by omega,by rw [sz];exact hl⟩]
 unfold xni;unfold VDd dOp xis dPl dFi dCt dA dD dOK dB;rw [eS]
 injection hb with g1 _
 refine ⟨60,_,h',(true::Nat.ble (0+xee (Int.ofNat (byD w 0)) w*xcc xmp 22) (xee (Int.ofNat (byD w 0)) w)::xhu (xbs .u64 (pA (Int.ofNat (byD w 0)) (List.drop 2 w) true (xee (Int.ofNat (byD w 0)) w)))::[]),h,?_,?_⟩
 · simp only [zQ,zS,zL,z1,xdl,g1]
   simp only [szU',szS',Nat.mul_one,List.nil_append,List.append_nil,List.cons_append]
   rw [rca]
   simp only [la,ld,xgh,hm0]
   rfl
 · simp only [szU',szS',Nat.mul_one,Nat.zero_add,xah,xgc,xgg,xbq,Nat.le_refl,decide_true,true_and];rfl
theorem doc_all (w:List UInt8) (hN:w.length ≤ 100000):xni w:=by
 by_cases hw:w=[]
 · subst hw
   have key:=Pq_t [] rfl
   obtain ⟨h',h,hb⟩:=key
   exact ⟨60,_,h',[],h,rfl,rfl⟩
 by_cases h1:byD w 0=1
 · exact doc_1 w hN hw h1
 by_cases h2:byD w 0=2
 · exact doc_2 w hN hw h2
 by_cases h3:byD w 0=3
 · exact doc_3 w hN hw h3
 by_cases h5:byD w 0=5
 · exact doc_5 w hN hw h5
 by_cases h6:byD w 0=6
 · exact doc_6 w hN hw h6
 by_cases h7:byD w 0=7
 · exact doc_7 w hN hw h7
 exact doc_0 w hN hw ⟨h1,h2,h3,h5,h6,h7⟩
def docF:FRowM:=fun us=>match us with
 | [.str w]=>some ([Nat.ble w.length 100000], .tuple [.agg [.int .u8 (Int.ofNat (kept (dOp w))), .int .u8 (Int.ofNat (kept (xis w))), .int .u8 (Int.ofNat (kept (dPl w))), .int .u64 (Int.ofNat (kept (dFi w))), .int .u8 (Int.ofNat (kept (dCt w))), .fsl (kept (xgh (dA w).length)) (kept (dA w).length) (kept (xbs .u64 (dA w))), .fsl (kept (xgh (dD w).length)) (kept (dD w).length) (kept (encS (dD w)))], .bool (kept (dOK w))])
 | _=>none
theorem docF_ok:FSum.Sound Try.prog tys 61 docF:=by
 refine FSum.soundZ (cxZ xbd) all10z (fun us c v hm hc=>?_)
 unfold docF at hm
 split at hm
 · rename_i w
   injection hm with hm;injection hm with e1 e2;subst e1;subst e2
   rw [xah] at hc
   obtain ⟨f,v0,h',c2,h1,h2,h3⟩:=doc_all w (Nat.le_of_ble_eq_true hc.1)
   simp only [xab]
   exact ⟨f,v0,h',c2,h1,h2,h3⟩
 · cases hm
end Go.Proofs.Ytecncappdnhbaaa
end
end

section
noncomputable section
namespace Go.Ab
namespace M
def goX:Nat → List UInt8 → Nat → List UInt8
  | 0,l,_=>l
  | k+1,l,i=>goX k (l.set i (UInt8.ofNat ((l.getD i 0).toNat ^^^ 255))) (i+1)
end M
open M
theorem rowSet_byte (l:List UInt8) (i:Nat) (b:UInt8) (h:i < l.length):xdh (ofBytes l) i [.int .u8 (b.toNat:Int)]=ofBytes (l.set i b):=by
  induction l generalizing i with
  | nil=>simp at h
  | cons a l ih =>
    cases i with
    | zero=>rfl
    | succ i=>show AV.int .u8 (a.toNat:Int)::xdh (ofBytes l) i _=_;rw [ih i (by simpa using h)];rfl
theorem turn_byte (l:List UInt8) (i:Nat) (h:i < l.length):xdh (ofBytes l) (0+(Int.ofNat i).toNat*1) [AV.int IntKind.u8 (xorN IntKind.u8 ((xbp (ofBytes l) (0+(Int.ofNat i).toNat*1)).getD AV.undef).intOf (Int.ofNat 255))]=ofBytes (l.set i (UInt8.ofNat ((l.getD i 0).toNat ^^^ 255))):=by
  have e0:0+(Int.ofNat i).toNat*1=i:=by show 0+i*1=i;omega
  have hb:=(l.getD i 0).toNat_lt
  have e1:xorN IntKind.u8 ((l.getD i 0).toNat:Int) (Int.ofNat 255)=(((l.getD i 0).toNat ^^^ 255:Nat):Int):=xorN_nat .u8 _ 255 hb (by decide)
  have e2:((l.getD i 0).toNat ^^^ 255) < 2 ^ 8:=Nat.xor_lt_two_pow hb (by decide)
  have e3:((UInt8.ofNat ((l.getD i 0).toNat ^^^ 255)).toNat:Int)=(((l.getD i 0).toNat ^^^ 255:Nat):Int):=by rw [UInt8.toNat_ofNat',Nat.mod_eq_of_lt e2]
  have e4:(xbp (ofBytes l) i).getD AV.undef=.int .u8 ((l.getD i 0).toNat:Int):=by
    rw [xjg l i h,List.getD_eq_getElem?_getD,List.getElem?_eq_getElem h];rfl
  rw [e0,e4]
  show xdh (ofBytes l) i [AV.int IntKind.u8 (xorN IntKind.u8 ((l.getD i 0).toNat:Int) (Int.ofNat 255))]=_
  rw [e1,← e3]
  exact rowSet_byte l i _ h
theorem xorLoop {P:Program} {ty:TypeId → Option ATy} {nn k:Nat} {b:Code} {id:Nat} (st:List UInt8 → Nat → St) (X:AX) (n:Nat) (hX:X ≠ .normal)
    (hr:∀ l i,l.length=n → i < n → xbb P (xdi ty) nn k b (st l i) .normal (st (l.set i (UInt8.ofNat ((l.getD i 0).toNat ^^^ 255))) (i+1)))
    (he:∀ l,l.length=n → xbb P (xdi ty) nn k b (st l n) X (st l n)) (l:List UInt8) (hl:l.length=n) :
    xbb P (xdi ty) nn k (.block id (.loop b)) (st l 0) (AX.inBlock id X) (st (goX n l 0) n):=by
  have key:=xbb.loop (P:=P) (cx:=xdi ty) (nn:=nn) (n0:=k) (b:=b) (fun q:{q:List UInt8 × Nat // q.1.length=n∧q.2 ≤ n}=>st q.1.1 q.1.2) (fun q=>(X,st (goX (n - q.1.2) q.1.1 q.1.2) n)) (fun q=>n - q.1.2) (fun q=>by
    obtain ⟨⟨l,i⟩,h1,h2⟩:=q
    simp only at h1 h2
    by_cases hlt:i < n
    · refine .inl ⟨⟨(l.set i (UInt8.ofNat ((l.getD i 0).toNat ^^^ 255)),i+1),by simp [h1],by simp only;omega⟩,hr l i h1 hlt,?_,by simp only;omega⟩
      obtain ⟨j,hj⟩:∃ j,n - i=j+1:=⟨n - i - 1,by omega⟩
      simp only [hj,show n - (i+1)=j by omega,goX]
    · have:i=n:=by omega
      subst this
      refine .inr ⟨?_,hX⟩
      simp only [Nat.sub_self,goX]
      exact he l h1) ⟨(l,0),hl,Nat.zero_le _⟩
  exact xbb.block id key
end Go.Ab
end
end

section
noncomputable section
namespace Go.Proofs.Ytecncappdnhbaaa
open Go.Ab.M Go.Ab Go
theorem xo_r (nb:Bool) (lb:Nat) (bv:List AV) (n:Nat) (n':Nat) (c:Option Nat) (cs:List AV) (e:Int) (x0:Int) (x1:Int) (x2:Int) (x3:Int) (x4:Int) (xa:Bool) (al:Nat) (av:List AV) (xd:Bool) (dl:Nat) (dv:List AV) (m:Nat) (i:Nat) (h0:(xak (Int.ofNat i) (Int.ofNat m))=true) (h1:((Int.ofNat i).toNat.succ.ble n)=true) (h2:((0+(Int.ofNat i).toNat*1).succ.ble n')=true) (h3:((0+(Int.ofNat i).toNat*1).succ.ble cs.length)=true) (h4:(AV.isInt IntKind.u8 ((xbp cs (0+(Int.ofNat i).toNat*1)).getD AV.undef))=true) (h5:((0+(Int.ofNat i).toNat*1+1).ble n')=true) (h6:(AV.plainL bv)=true) (h7:(AV.plainL (xdh cs (0+(Int.ofNat i).toNat*1) [AV.int IntKind.u8 (xorN IntKind.u8 ((xbp cs (0+(Int.ofNat i).toNat*1)).getD AV.undef).intOf (Int.ofNat 255))]))=true) (h8:(AV.plainL av)=true) (h9:(AV.plainL dv)=true) :
 xbb Try.prog (xdi tys) 94 2 (xbj (xbg Try.f14 0)) { fr:=xar 94 ([0,3,4,5,28,29].zip [.fsl nb lb bv, .slice (some (0,0)) n c, .ptr (some (1,0)), .int .i64 e, .int .i64 (Int.ofNat m), .int .i64 (Int.ofNat i)]),ds:=xdp 0,H:=mkL [.cells true 5 n' cs, .cells true 103 7 [.int .u8 x0, .int .u8 x1, .int .u8 x2, .int .u32 x3, .int .u8 x4, .fsl xa al av, .fsl xd dl dv]] } (AX.normal) ⟨xar 94 ([0,3,4,5,28,29].zip [.fsl nb lb bv, .slice (some (0,0)) n c, .ptr (some (1,0)), .int .i64 e, .int .i64 (Int.ofNat m), .int .i64 (xaf IntKind.i64 ((Int.ofNat i).add (Int.ofNat 1)))]),xdp 0,mkL [.cells true 5 n' (xdh cs (0+(Int.ofNat i).toNat*1) [.int .u8 (xorN IntKind.u8 ((xbp cs (0+(Int.ofNat i).toNat*1)).getD AV.undef).intOf (Int.ofNat 255))]), .cells true 103 7 [.int .u8 x0, .int .u8 x1, .int .u8 x2, .int .u32 x3, .int .u8 x4, .fsl xa al av, .fsl xd dl dv]]⟩ :=
 xbh (g:=30) (k:=14) (f:=30) (sl:=[0,3,4,5,28,29]) (ks:=[0,1]) (rs:=[]) (ds:=[]) (cxZ xbd) all10e (q:=qNs [0,3,0,0,0,0,3,0,4,0]) (c:=(cnT::cnT::cnT::cnT::cnT::cnT::cnT::[])) (cq:=[AV.plainL bv,true,true,true,AV.plainL (xdh cs (0+(Int.ofNat i).toNat*1) [AV.int IntKind.u8 (xorN IntKind.u8 ((xbp cs (0+(Int.ofNat i).toNat*1)).getD AV.undef).intOf (Int.ofNat 255))]),true,AV.plainL av,AV.plainL dv]) (by kernel_rfl) ⟨h0,h1,h2,h3,h4,h1,h5,trivial⟩ (xci ⟨h6,rfl,rfl,rfl,h7,rfl,h8,h9,trivial⟩) (by kernel_rfl) (by kernel_rfl) (by kernel_rfl) (by kernel_rfl) (by kernel_rfl)
theorem xo_e (nb:Bool) (lb:Nat) (bv:List AV) (n:Nat) (n':Nat) (c:Option Nat) (cs:List AV) (e:Int) (x0:Int) (x1:Int) (x2:Int) (x3:Int) (x4:Int) (xa:Bool) (al:Nat) (av:List AV) (xd:Bool) (dl:Nat) (dv:List AV) (m:Nat) (i:Nat) (h0:(xak (Int.ofNat i) (Int.ofNat m))=false) (h1:(AV.plainL bv)=true) (h2:(AV.plainL cs)=true) (h3:(AV.plainL av)=true) (h4:(AV.plainL dv)=true) :
 xbb Try.prog (xdi tys) 94 2 (xbj (xbg Try.f14 0)) { fr:=xar 94 ([0,3,4,5,28,29].zip [.fsl nb lb bv, .slice (some (0,0)) n c, .ptr (some (1,0)), .int .i64 e, .int .i64 (Int.ofNat m), .int .i64 (Int.ofNat i)]),ds:=xdp 0,H:=mkL [.cells true 5 n' cs, .cells true 103 7 [.int .u8 x0, .int .u8 x1, .int .u8 x2, .int .u32 x3, .int .u8 x4, .fsl xa al av, .fsl xd dl dv]] } (AX.exit 0) ⟨xar 94 ([0,3,4,5,28,29].zip [.fsl nb lb bv, .slice (some (0,0)) n c, .ptr (some (1,0)), .int .i64 e, .int .i64 (Int.ofNat m), .int .i64 (Int.ofNat i)]),xdp 0,mkL [.cells true 5 n' cs, .cells true 103 7 [.int .u8 x0, .int .u8 x1, .int .u8 x2, .int .u32 x3, .int .u8 x4, .fsl xa al av, .fsl xd dl dv]]⟩ :=
 xbh (g:=30) (k:=14) (f:=30) (sl:=[0,3,4,5,28,29]) (ks:=[0,1]) (rs:=[]) (ds:=[]) (cxZ xbd) all10e (q:=qNs [1]) (c:=(cnF::[])) (cq:=[AV.plainL bv,true,true,true,AV.plainL cs,true,AV.plainL av,AV.plainL dv]) (by kernel_rfl) ⟨h0,trivial⟩ (xci ⟨h1,rfl,rfl,rfl,h2,rfl,h3,h4,trivial⟩) (by kernel_rfl) (by kernel_rfl) (by kernel_rfl) (by kernel_rfl) (by kernel_rfl)
def xoL:xfj:=⟨94,xbg Try.f14 0,[0,3,4,5,28,29],0,[],fun vs bs=>match vs,bs with
 | [.fsl nb lb bv, .slice (some (0,0)) n c, .ptr (some (1,0)), .int .i64 e, .int .i64 (.ofNat m), .int .i64 (.ofNat i)],[.cells true 5 n' cs, .cells true 103 7 [.int .u8 x0, .int .u8 x1, .int .u8 x2, .int .u32 x3, .int .u8 x4, .fsl xa al av, .fsl xd dl dv]] =>
  some ([u8L cs,Nat.beq cs.length n,Nat.beq n' n,Nat.beq m n,Nat.beq i 0,Nat.blt n 1000000,AV.plainL bv,AV.plainL av,AV.plainL dv], .normal,[.fsl nb lb bv, .slice (some (0,0)) n c, .ptr (some (1,0)), .int .i64 e, .int .i64 (Int.ofNat n), .int .i64 (Int.ofNat n)],[.cells true 5 n (kept (ofBytes (goX n (xap cs) 0))), .cells true 103 7 [.int .u8 x0, .int .u8 x1, .int .u8 x2, .int .u32 x3, .int .u8 x4, .fsl xa al av, .fsl xd dl dv]])
 | _,_=>none⟩
theorem xoL_ok:xoL.OK Try.prog (xdi tys) (xbz tys) 0:=by
 intro vs bs conds X vs' bs' h hc hin
 simp only [xoL] at h
 split at h
 · rename_i nb lb bv n c e m i n' cs x0 x1 x2 x3 x4 xa al av xd dl dv
   injection h with h;injection h with e1 h;injection h with e2 h;injection h with e3 e4
   rw [xab] at e4
   subst e1;subst e2;subst e3;subst e4
   simp only [xah] at hc
   obtain ⟨c1,c2,c3,c4,c5,c6,p1,p2,p3,_⟩:=hc
   obtain ⟨l,rfl⟩:=xdr.1 c1
   have c2:=xaj c2
   have c3:=xaj c3
   have c4:=xaj c4
   have c5:=xaj c5
   rw [xad] at c2
   subst c3;subst c5;subst c4
   rw [xal]
   have hn:l.length < 1000000:=by rw [c2];simpa [Nat.blt_eq] using c6
   subst c2
   refine xorLoop (b:=xbj (xbg Try.f14 0)) (fun l' i=>xoL.st ([.fsl nb lb bv, .slice (some (0,0)) l.length c, .ptr (some (1,0)), .int .i64 e, .int .i64 (Int.ofNat l.length), .int .i64 (Int.ofNat i)],[.cells true 5 l.length (ofBytes l'), .cells true 103 7 [.int .u8 x0, .int .u8 x1, .int .u8 x2, .int .u32 x3, .int .u8 x4, .fsl xa al av, .fsl xd dl dv]])) (.exit 0) l.length (by simp) (fun l' i hl hi=>?_) (fun l' hl=>?_) l rfl
   · have hlt:xak (Int.ofNat i) (Int.ofNat l.length)=true:=by rw [xat];exact decide_eq_true (by show (i:Int) < (l.length:Int);omega)
     have z0:0+(Int.ofNat i).toNat*1=i:=by show 0+i*1=i;omega
     have hA:AV.isInt IntKind.u8 ((xbp (ofBytes l') (0+(Int.ofNat i).toNat*1)).getD AV.undef)=true:=by
      rw [z0,xjg l' i (by omega)];rfl
     have key:=xo_r nb lb bv l.length l.length c (ofBytes l') e x0 x1 x2 x3 x4 xa al av xd dl dv l.length i hlt (xeg (by show i+1 ≤ _;omega)) (xeg (by rw [z0];omega)) (xeg (by rw [z0,xad];omega)) hA (xeg (by rw [z0];omega)) p1 (by rw [turn_byte l' i (by omega)];exact xao _) p2 p3
     have hw:xaf .i64 ((Int.ofNat i).add (Int.ofNat 1))=Int.ofNat (i+1):=xbe .i64 (i+1) (by show _ < 9223372036854775808;omega)
     rw [turn_byte l' i (by omega),hw] at key
     exact key
   · have hlt:xak (Int.ofNat l.length) (Int.ofNat l.length)=false:=by rw [xat];exact decide_eq_false (by show ¬ (l.length:Int) < (l.length:Int);omega)
     exact xo_e nb lb bv l.length l.length c (ofBytes l') e x0 x1 x2 x3 x4 xa al av xd dl dv l.length l.length hlt p1 (xao _) p2 p3
 · cases h
abbrev T10C:TTab:=[(46,(xcf.const (.bool true)).rt),(57,⟨true, .node rTw (.node rT4 (.leaf bytes4.m) (.leaf bytesY.m)) (.leaf bytesN.m)⟩),(59,docR.rt)]
theorem T10C_ok:TOK Try.prog tys T10C:=⟨xcf.rt_sound xky,RT.sound (show (_∧_)∧_ from ⟨⟨bytes4_ok,bytesY_ok⟩,bytesN_ok⟩),xcf.rt_sound docR_ok,trivial⟩
def K10C:xem:={ t:=T10C,f:=[(58, .leaf refF),(61, .leaf docF)],z:=[(60,parZ)],l:=[((14,0),xoL.lt)] }
theorem K10C_ok:KOK Try.prog tys K10C:=⟨T10C_ok,⟨refF_ok,docF_ok,trivial⟩,⟨(show _∧_ from ⟨paG_ok,paB_ok⟩),trivial⟩,trivial,⟨xfj.lt_ok xoL_ok,trivial⟩⟩
abbrev C10C:=xdt tys fns K10C
theorem all10C:xcy Try.prog C10C:=xdw K10C_ok
end Go.Proofs.Ytecncappdnhbaaa
end
end

section
noncomputable section
namespace Go.Proofs.Ytecncappdnhbaaa
open Go.Ab.M Go.Ab Go
section
variable (cs:List AV)
abbrev zX:List UInt8:=xap ([]++cs)
abbrev zY:List UInt8:=(bytesOf cs).getD []
abbrev zA1:List AV:=(kept (xbs IntKind.u32 (qA (zX cs))))
abbrev zD1:List AV:=(kept (enD (qD (zX cs))))
abbrev zr0:=(xbi (Int.ofNat (kept (hdN (zX cs)))) (Int.ofNat (kept (xmc (zX cs)))) (Int.ofNat (kept (qPl (zX cs)))) (Int.ofNat (kept (qFi (zX cs)))) (Int.ofNat (kept (qCt (zX cs)))) (kept (qA (zX cs)).length) (kept (qD (zX cs)).length) (zD1 cs))
abbrev zq1:=(xgd (Int.ofNat (kept (hdN (zX cs)))) (Int.ofNat (kept (xmc (zX cs)))) (Int.ofNat (kept (qPl (zX cs)))) (Int.ofNat (kept (qFi (zX cs)))) (Int.ofNat (kept (qCt (zX cs)))) (xbt (zA1 cs)) (xjd (zD1 cs)))
abbrev zd2:=(xeb (Int.ofNat (kept (dOp (zY cs)))) (Int.ofNat (kept (xis (zY cs)))) (Int.ofNat (kept (dPl (zY cs)))) (Int.ofNat (kept (dFi (zY cs)))) (Int.ofNat (kept (dCt (zY cs)))) (kept (dA (zY cs)).length) (kept (dD (zY cs)).length) (xbt (kept (xbs IntKind.u64 (dA (zY cs))))) (xce (kept (encS (dD (zY cs))))))
abbrev zd3:=(xeb (Int.ofNat (kept (hdN (zX cs)))) (Int.ofNat (kept (xmc (zX cs)))) (Int.ofNat (kept (qPl (zX cs)))) (Int.ofNat (kept (qFi (zX cs)))) (Int.ofNat (kept (qCt (zX cs)))) (kept (qA (zX cs)).length) (kept (qD (zX cs)).length) (xbt (kept (xbs IntKind.u64 (xbt (zA1 cs))))) (xce (kept (encS (xjd (zD1 cs))))))
end
theorem lp_t (nb:Bool) (N:Nat) (cs:List AV) (h0:(xak (Int.ofNat 8000) (Int.ofNat N))=true) :
 ∃ h',xbl C10C 60 (Tgt.fn 14) [.fsl nb N cs] H0=some (AV.bool true,h')∧[].map h'.get=[] :=
 xaa (q:=qNs [6,0]) (c:=(cnT::[])) (by kernel_rfl) ⟨h0,trivial⟩
theorem lp_ftft (nb:Bool) (N:Nat) (cs:List AV) (h0:(xak (Int.ofNat 8000) (Int.ofNat N))=false) (h1:(cs.length.beq (N.mul 1))=true) (h2:(N.beq 0)=true) (h3:(AV.plainL cs)=true) (h4:(AV.plainL (kept (ofBytes (goX 0 (xap []) 0))))=true) (h5:(cs.length.beq N)=true) (h6:((bytesOf cs).isSome)=true) (h7:((zY cs).length.ble 100000)=true) (h8:(!kept (dOK (zY cs)) == false)=false) (h9:(!kept (dOK (zY cs)))=true) :
 ∃ h',xbl C10C 60 (Tgt.fn 14) [.fsl nb N cs] H0=some (AV.bool true,h')∧[].map h'.get=[] :=
 xaa (q:=qNs [6,1,3,0,0,26,0,9,0,15,0,5,0,5,0,5,0,0,0,5,1,1,1,4,1,3,1,3,0,20]) (c:=(cnF::cnT::cnT::Cnd.code (ZLT.lsumS (xbz tys) ((14,0),xoL.lt).snd).fst (ZLT.lsumS (xbz tys) ((14,0),xoL.lt).snd).fst::cnT::cnT::cnT::cnT::cnT::cnT::cnT::cnT::cnF::cnF::cnF::cnF::cnF::cnT::[])) (by kernel_rfl) ⟨h0,h1,h2,rfl,h3,h3,h3,h3,h4,h5,h6,h7,h8,h8,h8,h8,h8,h9,trivial⟩
theorem lp_fftfft (nb:Bool) (N:Nat) (cs:List AV) (h0:(xak (Int.ofNat 8000) (Int.ofNat N))=false) (h1:(cs.length.beq (N.mul 1))=true) (h2:(N.beq 0)=false) (h3:(xch 1 0 N)=true) (h4:(Nat.ble 1 (0+N))=true) (h5:(kept (xbu (zX cs)))=false) (h6:(AV.plainL ([]++cs))=true) (h7:(u8L ([]++cs))=true) (h8:(([]++cs).length.beq ([]++cs).length)=true) (h9:((0+N).beq ([]++cs).length)=true) (h10:(([]++cs).length.ble 100000)=true) (h11:(!xbu (zX cs))=true) (h12:(AV.plainL cs)=true) (h13:(([]++cs).length.beq (0+N))=true) (h14:((0+N).beq (0+N))=true) (h15:((0+N).succ.ble 1000000)=true) (h16:(AV.plainL (kept (ofBytes (goX (0+N) (zX cs) 0))))=true) (h17:(cs.length.beq N)=true) (h18:((bytesOf cs).isSome)=true) (h19:((zY cs).length.ble 100000)=true) (h20:(!kept (dOK (zY cs)) == false)=false) (h21:(!kept (dOK (zY cs)))=true) :
 ∃ h',xbl C10C 60 (Tgt.fn 14) [.fsl nb N cs] H0=some (AV.bool true,h')∧[].map h'.get=[] :=
 xaa (q:=qNs [6,1,3,0,1,0,0,3,1,7,0,4,0,0,0,0,0,0,6,0,11,0,5,0,5,0,5,0,5,0,0,0,0,3,0,0,5,0,5,0,5,0,0,0,5,1,1,1,4,1,3,1,3,0,20]) (c:=(cnF::cnT::cnF::cnT::cnT::cnF::cnT::cnT::cnT::cnT::cnT::cnT::cnT::cnT::Cnd.code (ZLT.lsumS (xbz tys) ((14,0),xoL.lt).snd).fst (ZLT.lsumS (xbz tys) ((14,0),xoL.lt).snd).fst::cnT::cnT::cnT::cnT::cnT::cnT::cnT::cnT::cnT::cnT::cnT::cnT::cnT::cnT::cnT::cnF::cnF::cnF::cnF::cnF::cnT::[])) (by kernel_rfl) ⟨h0,h1,h2,h3,h4,h5,h6,h6,h7,h8,h9,h10,h11,h6,rfl,h12,h6,h12,h6,h7,h13,h13,h14,h15,h12,h12,h16,h17,h18,h19,h20,h20,h20,h20,h20,h21,trivial⟩
theorem lp_ffttffttt (nb:Bool) (N:Nat) (cs:List AV) (h0:(xak (Int.ofNat 8000) (Int.ofNat N))=false) (h1:(cs.length.beq (N.mul 1))=true) (h2:(N.beq 0)=false) (h3:(xch 1 0 N)=true) (h4:(Nat.ble 1 (0+N))=true) (h5:(kept (xbu (zX cs)))=true) (h6:(AV.plainL ([]++cs))=true) (h7:(u8L ([]++cs))=true) (h8:(([]++cs).length.beq ([]++cs).length)=true) (h9:((0+N).beq ([]++cs).length)=true) (h10:(([]++cs).length.ble 100000)=true) (h11:(xbu (zX cs))=true) (h12:(AV.plainL (zA1 cs))=true) (h13:(AV.plainL (zD1 cs))=true) (h14:(AV.plainL cs)=true) (h15:(([]++cs).length.beq (0+N))=true) (h16:((0+N).beq (0+N))=true) (h17:((0+N).succ.ble 1000000)=true) (h18:(AV.plainL (kept (ofBytes (goX (0+N) (zX cs) 0))))=true) (h19:(cs.length.beq N)=true) (h20:((bytesOf cs).isSome)=true) (h21:((zY cs).length.ble 100000)=true) (h22:(!kept (dOK (zY cs)) == true)=false) (h23:(!kept (dOK (zY cs)))=false) (h24:(kept (zr0 cs))=true) (h25:(xae (Int.ofNat (kept (hdN (zX cs)))) (Int.ofNat 4))=true) (h26:(xbr (Int.ofNat (kept (qPl (zX cs)))) (Int.ofNat 255))=true) (h27:(xbr (Int.ofNat (kept (qCt (zX cs)))) (Int.ofNat 255))=true) (h28:(xak (Int.ofNat (kept (qFi (zX cs)))) (Int.ofNat 4294967296))=true) (h29:(isU IntKind.u32 (zA1 cs))=true) (h30:((zA1 cs).length.beq (kept (qA (zX cs)).length))=true) (h31:(isD (zD1 cs))=true) (h32:((zD1 cs).length.beq (kept (qD (zX cs)).length))=true) (h33:((kept (qD (zX cs)).length).ble 1000000)=true) (h34:(zr0 cs)=true) (h35:(xam [UInt8.ofNat 4] (zY cs))=true) (h36:((kept (qA (zX cs)).length).ble 900)=true) (h37:((kept (qD (zX cs)).length).ble 900)=true) (h38:(AV.plainL (kept (xbs IntKind.u64 (xbt (zA1 cs)))))=true) (h39:(AV.plainL (kept (encS (xjd (zD1 cs)))))=true) (h40:(isU IntKind.u64 (kept (xbs IntKind.u64 (xbt (zA1 cs)))))=true) (h41:((kept (xbs IntKind.u64 (xbt (zA1 cs)))).length.beq (kept (qA (zX cs)).length))=true) (h42:((kept (qA (zX cs)).length).ble 1000000)=true) (h43:(isS (kept (encS (xjd (zD1 cs)))))=true) (h44:((kept (encS (xjd (zD1 cs)))).length.beq (kept (qD (zX cs)).length))=true) (h45:(AV.plainL (kept (xbs IntKind.u64 (dA (zY cs)))))=true) (h46:(AV.plainL (kept (encS (dD (zY cs)))))=true) (h47:(xak (Int.ofNat (kept (dFi (zY cs)))) (Int.ofNat 4294967296))=true) (h48:(isU IntKind.u64 (kept (xbs IntKind.u64 (dA (zY cs)))))=true) (h49:((kept (xbs IntKind.u64 (dA (zY cs)))).length.beq (kept (dA (zY cs)).length))=true) (h50:((kept (dA (zY cs)).length).ble 1000000)=true) (h51:(isS (kept (encS (dD (zY cs)))))=true) (h52:((kept (encS (dD (zY cs)))).length.beq (kept (dD (zY cs)).length))=true) (h53:((kept (dD (zY cs)).length).ble 1000000)=true) :
 ∃ h',xbl C10C 60 (Tgt.fn 14) [.fsl nb N cs] H0=some (AV.bool (xam (kept (zd3 cs)) (kept (zd2 cs))),h')∧[].map h'.get=[] :=
 xaa (q:=qNs [6,1,3,0,1,0,0,3,0,7,0,4,0,0,0,0,0,0,3,0,0,3,0,11,0,5,0,3,0,0,0,5,0,3,0,0,0,0,0,0,3,0,0,0,0,3,0,5,0,3,0,0,0,0,0,5,1,1,1,4,1,3,1,3,1,17,0,0,0,0,4,0,3,0,3,0,0,0,0,0,0,0,0,8,0,0,4,0,17,0,17,0,0,0,3,0,0,0,0,0,0,0,0,0,0,7,0,0,0,0,0,0,0,0,0,0,7,0,0,0,0,0,0,0,0,0,12,0,3,0,0,0,3,0,3,0,0,0,17,0,0,17,0,17,0,17,0,0,0,0,0,0,0,0,0]) (c:=(cnF::cnT::cnF::cnT::cnT::cnT::cnT::cnT::cnT::cnT::cnT::cnT::cnT::cnT::cnT::cnT::Cnd.code (ZLT.lsumS (xbz tys) ((14,0),xoL.lt).snd).fst (ZLT.lsumS (xbz tys) ((14,0),xoL.lt).snd).fst::cnT::cnT::cnT::cnT::cnT::cnT::cnT::cnT::cnT::cnT::cnT::cnT::cnT::cnT::cnT::cnT::cnT::cnT::cnT::cnT::cnT::cnT::cnT::cnF::cnF::cnF::cnF::cnF::cnF::cnT::cnT::cnT::cnT::cnT::cnT::cnT::cnT::cnT::cnT::cnT::cnT::cnT::cnT::cnT::cnT::cnT::cnT::cnT::cnT::cnT::cnT::cnT::cnT::cnT::cnT::cnT::cnT::cnT::cnT::cnT::cnT::cnT::cnT::cnT::cnT::cnT::cnT::cnT::cnT::cnT::cnT::cnT::cnT::cnT::cnT::cnT::cnT::cnT::cnT::Cnd.same (AV.fsl nb N cs) (AV.fsl nb N cs)::cnT::cnT::Cnd.same (AV.str (zY cs)) (AV.str (zY cs))::Cnd.same (AV.bool (xam [UInt8.ofNat 4] (zY cs))) (AV.bool (xam [UInt8.ofNat 4] (zY cs)))::Cnd.same (AV.bool (xam [UInt8.ofNat 4] (zY cs))) (AV.bool (xam [UInt8.ofNat 4] (zY cs)))::Cnd.same (AV.bool (xam [UInt8.ofNat 4] (zY cs))) (AV.bool (xam [UInt8.ofNat 4] (zY cs)))::cnT::Cnd.same (AV.agg [AV.int IntKind.u8 (Int.ofNat (kept (hdN (zX cs)))),AV.int IntKind.u8 (Int.ofNat (kept (xmc (zX cs)))),AV.int IntKind.u8 (Int.ofNat (kept (qPl (zX cs)))),AV.int IntKind.u32 (Int.ofNat (kept (qFi (zX cs)))),AV.int IntKind.u8 (Int.ofNat (kept (qCt (zX cs)))),AV.fsl (kept (xgh (qA (zX cs)).length)) (kept (qA (zX cs)).length) (zA1 cs),AV.fsl (kept (xgh (qD (zX cs)).length)) (kept (qD (zX cs)).length) (zD1 cs)]) (AV.agg [AV.int IntKind.u8 (Int.ofNat (kept (hdN (zX cs)))),AV.int IntKind.u8 (Int.ofNat (kept (xmc (zX cs)))),AV.int IntKind.u8 (Int.ofNat (kept (qPl (zX cs)))),AV.int IntKind.u32 (Int.ofNat (kept (qFi (zX cs)))),AV.int IntKind.u8 (Int.ofNat (kept (qCt (zX cs)))),AV.fsl (kept (xgh (qA (zX cs)).length)) (kept (qA (zX cs)).length) (zA1 cs),AV.fsl (kept (xgh (qD (zX cs)).length)) (kept (qD (zX cs)).length) (zD1 cs)])::cnT::Cnd.same (AV.agg [AV.int IntKind.u8 (Int.ofNat (kept (dOp (zY cs)))),AV.int IntKind.u8 (Int.ofNat (kept (xis (zY cs)))),AV.int IntKind.u8 (Int.ofNat (kept (dPl (zY cs)))),AV.int IntKind.u64 (Int.ofNat (kept (dFi (zY cs)))),AV.int IntKind.u8 (Int.ofNat (kept (dCt (zY cs)))),AV.fsl (kept (xgh (dA (zY cs)).length)) (kept (dA (zY cs)).length) (kept (xbs IntKind.u64 (dA (zY cs)))),AV.fsl (kept (xgh (dD (zY cs)).length)) (kept (dD (zY cs)).length) (kept (encS (dD (zY cs))))]) (AV.agg [AV.int IntKind.u8 (Int.ofNat (kept (dOp (zY cs)))),AV.int IntKind.u8 (Int.ofNat (kept (xis (zY cs)))),AV.int IntKind.u8 (Int.ofNat (kept (dPl (zY cs)))),AV.int IntKind.u64 (Int.ofNat (kept (dFi (zY cs)))),AV.int IntKind.u8 (Int.ofNat (kept (dCt (zY cs)))),AV.fsl (kept (xgh (dA (zY cs)).length)) (kept (dA (zY cs)).length) (kept (xbs IntKind.u64 (dA (zY cs)))),AV.fsl (kept (xgh (dD (zY cs)).length)) (kept (dD (zY cs)).length) (kept (encS (dD (zY cs))))])::Cnd.same (AV.agg [AV.int IntKind.u8 (Int.ofNat (kept (dOp (zY cs)))),AV.int IntKind.u8 (Int.ofNat (kept (xis (zY cs)))),AV.int IntKind.u8 (Int.ofNat (kept (dPl (zY cs)))),AV.int IntKind.u64 (Int.ofNat (kept (dFi (zY cs)))),AV.int IntKind.u8 (Int.ofNat (kept (dCt (zY cs)))),AV.fsl (kept (xgh (dA (zY cs)).length)) (kept (dA (zY cs)).length) (kept (xbs IntKind.u64 (dA (zY cs)))),AV.fsl (kept (xgh (dD (zY cs)).length)) (kept (dD (zY cs)).length) (kept (encS (dD (zY cs))))]) (AV.agg [AV.int IntKind.u8 (Int.ofNat (kept (dOp (zY cs)))),AV.int IntKind.u8 (Int.ofNat (kept (xis (zY cs)))),AV.int IntKind.u8 (Int.ofNat (kept (dPl (zY cs)))),AV.int IntKind.u64 (Int.ofNat (kept (dFi (zY cs)))),AV.int IntKind.u8 (Int.ofNat (kept (dCt (zY cs)))),AV.fsl (kept (xgh (dA (zY cs)).length)) (kept (dA (zY cs)).length) (kept (xbs IntKind.u64 (dA (zY cs)))),AV.fsl (kept (xgh (dD (zY cs)).length)) (kept (dD (zY cs)).length) (kept (encS (dD (zY cs))))])::Cnd.same (AV.agg [AV.int IntKind.u8 (Int.ofNat (kept (dOp (zY cs)))),AV.int IntKind.u8 (Int.ofNat (kept (xis (zY cs)))),AV.int IntKind.u8 (Int.ofNat (kept (dPl (zY cs)))),AV.int IntKind.u64 (Int.ofNat (kept (dFi (zY cs)))),AV.int IntKind.u8 (Int.ofNat (kept (dCt (zY cs)))),AV.fsl (kept (xgh (dA (zY cs)).length)) (kept (dA (zY cs)).length) (kept (xbs IntKind.u64 (dA (zY cs)))),AV.fsl (kept (xgh (dD (zY cs)).length)) (kept (dD (zY cs)).length) (kept (encS (dD (zY cs))))]) (AV.agg [AV.int IntKind.u8 (Int.ofNat (kept (dOp (zY cs)))),AV.int IntKind.u8 (Int.ofNat (kept (xis (zY cs)))),AV.int IntKind.u8 (Int.ofNat (kept (dPl (zY cs)))),AV.int IntKind.u64 (Int.ofNat (kept (dFi (zY cs)))),AV.int IntKind.u8 (Int.ofNat (kept (dCt (zY cs)))),AV.fsl (kept (xgh (dA (zY cs)).length)) (kept (dA (zY cs)).length) (kept (xbs IntKind.u64 (dA (zY cs)))),AV.fsl (kept (xgh (dD (zY cs)).length)) (kept (dD (zY cs)).length) (kept (encS (dD (zY cs))))])::cnT::cnT::cnT::cnT::Cnd.same (AV.bool (xam (kept (zd3 cs)) (kept (zd2 cs)))) (AV.bool (xam (kept (zd3 cs)) (kept (zd2 cs))))::cnT::Cnd.same (AV.bool (xam (kept (zd3 cs)) (kept (zd2 cs)))) (AV.bool (xam (kept (zd3 cs)) (kept (zd2 cs))))::Cnd.same (AV.bool (xam (kept (zd3 cs)) (kept (zd2 cs)))) (AV.bool (xam (kept (zd3 cs)) (kept (zd2 cs))))::[])) (by kernel_rfl) ⟨h0,h1,h2,h3,h4,h5,h6,h6,h7,h8,h9,h10,h11,h12,h13,h6,rfl,h14,h6,h12,h13,h14,h6,h12,h13,h7,h15,h15,h16,h17,h14,h12,h13,h14,h18,h12,h13,h19,h20,h21,h22,h22,h22,h22,h22,h23,h24,h25,h12,h13,h26,h27,h28,h29,h30,h31,h32,h33,h34,h25,h19,h20,h35,h35,h35,h12,h13,h28,h29,h30,h36,h31,h32,h37,h35,h38,h39,h28,h40,h41,h42,h43,h44,h33,h35,h45,h46,h47,h48,h49,h50,h51,h52,h53,h35,h35,rfl,h19,h20,rfl,rfl,rfl,rfl,h35,rfl,h35,rfl,rfl,rfl,h35,h35,h35,h35,rfl,h35,rfl,rfl,trivial⟩
theorem lp_ffttfftft (nb:Bool) (N:Nat) (cs:List AV) (h0:(xak (Int.ofNat 8000) (Int.ofNat N))=false) (h1:(cs.length.beq (N.mul 1))=true) (h2:(N.beq 0)=false) (h3:(xch 1 0 N)=true) (h4:(Nat.ble 1 (0+N))=true) (h5:(kept (xbu (zX cs)))=true) (h6:(AV.plainL ([]++cs))=true) (h7:(u8L ([]++cs))=true) (h8:(([]++cs).length.beq ([]++cs).length)=true) (h9:((0+N).beq ([]++cs).length)=true) (h10:(([]++cs).length.ble 100000)=true) (h11:(xbu (zX cs))=true) (h12:(AV.plainL (zA1 cs))=true) (h13:(AV.plainL (zD1 cs))=true) (h14:(AV.plainL cs)=true) (h15:(([]++cs).length.beq (0+N))=true) (h16:((0+N).beq (0+N))=true) (h17:((0+N).succ.ble 1000000)=true) (h18:(AV.plainL (kept (ofBytes (goX (0+N) (zX cs) 0))))=true) (h19:(cs.length.beq N)=true) (h20:((bytesOf cs).isSome)=true) (h21:((zY cs).length.ble 100000)=true) (h22:(!kept (dOK (zY cs)) == true)=false) (h23:(!kept (dOK (zY cs)))=false) (h24:(kept (zr0 cs))=true) (h25:(xae (Int.ofNat (kept (hdN (zX cs)))) (Int.ofNat 4))=false) (h26:(xbr (Int.ofNat (kept (qPl (zX cs)))) (Int.ofNat 255))=true) (h27:(xbr (Int.ofNat (kept (qCt (zX cs)))) (Int.ofNat 255))=true) (h28:(xak (Int.ofNat (kept (qFi (zX cs)))) (Int.ofNat 4294967296))=true) (h29:(isU IntKind.u32 (zA1 cs))=true) (h30:((zA1 cs).length.beq (kept (qA (zX cs)).length))=true) (h31:(isD (zD1 cs))=true) (h32:((zD1 cs).length.beq (kept (qD (zX cs)).length))=true) (h33:((kept (qD (zX cs)).length).ble 1000000)=true) (h34:(zr0 cs)=true) (h35:(!xae (Int.ofNat (kept (hdN (zX cs)))) (Int.ofNat 4))=true) (h36:((0+kept (xkw (Int.ofNat (kept (hdN (zX cs)))) (kept (qA (zX cs)).length))).ble (kept (xkw (Int.ofNat (kept (hdN (zX cs)))) (kept (qA (zX cs)).length))))=true) (h37:((bytesOf (xan (kept (ofBytes (zq1 cs))) 0 (kept (xkw (Int.ofNat (kept (hdN (zX cs)))) (kept (qA (zX cs)).length))))).isSome)=true) (h38:(xam ((bytesOf (xan (kept (ofBytes (zq1 cs))) 0 (kept (xkw (Int.ofNat (kept (hdN (zX cs)))) (kept (qA (zX cs)).length))))).getD []) (zY cs))=true) (h39:((kept (qA (zX cs)).length).ble 900)=true) (h40:((kept (qD (zX cs)).length).ble 900)=true) (h41:(AV.plainL (kept (xbs IntKind.u64 (xbt (zA1 cs)))))=true) (h42:(AV.plainL (kept (encS (xjd (zD1 cs)))))=true) (h43:(isU IntKind.u64 (kept (xbs IntKind.u64 (xbt (zA1 cs)))))=true) (h44:((kept (xbs IntKind.u64 (xbt (zA1 cs)))).length.beq (kept (qA (zX cs)).length))=true) (h45:((kept (qA (zX cs)).length).ble 1000000)=true) (h46:(isS (kept (encS (xjd (zD1 cs)))))=true) (h47:((kept (encS (xjd (zD1 cs)))).length.beq (kept (qD (zX cs)).length))=true) (h48:(AV.plainL (kept (xbs IntKind.u64 (dA (zY cs)))))=true) (h49:(AV.plainL (kept (encS (dD (zY cs)))))=true) (h50:(xak (Int.ofNat (kept (dFi (zY cs)))) (Int.ofNat 4294967296))=true) (h51:(isU IntKind.u64 (kept (xbs IntKind.u64 (dA (zY cs)))))=true) (h52:((kept (xbs IntKind.u64 (dA (zY cs)))).length.beq (kept (dA (zY cs)).length))=true) (h53:((kept (dA (zY cs)).length).ble 1000000)=true) (h54:(isS (kept (encS (dD (zY cs)))))=true) (h55:((kept (encS (dD (zY cs)))).length.beq (kept (dD (zY cs)).length))=true) (h56:((kept (dD (zY cs)).length).ble 1000000)=true) :
 ∃ h',xbl C10C 60 (Tgt.fn 14) [.fsl nb N cs] H0=some (AV.bool (xam (kept (zd3 cs)) (kept (zd2 cs))),h')∧[].map h'.get=[] :=
 xaa (q:=qNs [6,1,3,0,1,0,0,3,0,7,0,4,0,0,0,0,0,0,3,0,0,3,0,11,0,5,0,3,0,0,0,5,0,3,0,0,0,0,0,0,3,0,0,0,0,3,0,5,0,3,0,0,0,0,0,5,1,1,1,4,1,3,1,3,1,17,0,1,0,0,4,0,3,0,3,0,0,0,0,0,0,0,0,4,0,0,4,0,0,4,0,17,0,17,0,0,0,3,0,0,0,0,0,0,0,0,0,0,7,0,0,0,0,0,0,0,0,0,0,7,0,0,0,0,0,0,0,0,0,6,0,3,0,0,0,3,0,3,0,0,0,3,0,3,0,0,0,17,0,0,17,0,17,0,17,0,0,0,0,0,0,0,0,0]) (c:=(cnF::cnT::cnF::cnT::cnT::cnT::cnT::cnT::cnT::cnT::cnT::cnT::cnT::cnT::cnT::cnT::Cnd.code (ZLT.lsumS (xbz tys) ((14,0),xoL.lt).snd).fst (ZLT.lsumS (xbz tys) ((14,0),xoL.lt).snd).fst::cnT::cnT::cnT::cnT::cnT::cnT::cnT::cnT::cnT::cnT::cnT::cnT::cnT::cnT::cnT::cnT::cnT::cnT::cnT::cnT::cnT::cnT::cnT::cnF::cnF::cnF::cnF::cnF::cnF::cnT::cnF::cnT::cnT::cnT::cnT::cnT::cnT::cnT::cnT::cnT::cnT::cnT::cnT::cnT::cnT::cnT::cnT::cnT::cnT::cnT::cnT::cnT::cnT::cnT::cnT::cnT::cnT::cnT::cnT::cnT::cnT::cnT::cnT::cnT::cnT::cnT::cnT::cnT::cnT::cnT::cnT::cnT::cnT::cnT::cnT::cnT::cnT::cnT::cnT::cnT::cnT::Cnd.same (AV.slice (some (4,0)) (kept (xkw (Int.ofNat (kept (hdN (zX cs)))) (kept (qA (zX cs)).length))) none) (AV.slice (some (4,0)) (kept (xkw (Int.ofNat (kept (hdN (zX cs)))) (kept (qA (zX cs)).length))) none)::cnT::cnT::Cnd.same (AV.str ((bytesOf (xan (kept (ofBytes (zq1 cs))) 0 (kept (xkw (Int.ofNat (kept (hdN (zX cs)))) (kept (qA (zX cs)).length))))).getD [])) (AV.str ((bytesOf (xan (kept (ofBytes (zq1 cs))) 0 (kept (xkw (Int.ofNat (kept (hdN (zX cs)))) (kept (qA (zX cs)).length))))).getD []))::Cnd.same (AV.fsl nb N cs) (AV.fsl nb N cs)::cnT::cnT::Cnd.same (AV.str (zY cs)) (AV.str (zY cs))::Cnd.same (AV.bool (xam ((bytesOf (xan (kept (ofBytes (zq1 cs))) 0 (kept (xkw (Int.ofNat (kept (hdN (zX cs)))) (kept (qA (zX cs)).length))))).getD []) (zY cs))) (AV.bool (xam ((bytesOf (xan (kept (ofBytes (zq1 cs))) 0 (kept (xkw (Int.ofNat (kept (hdN (zX cs)))) (kept (qA (zX cs)).length))))).getD []) (zY cs)))::Cnd.same (AV.bool (xam ((bytesOf (xan (kept (ofBytes (zq1 cs))) 0 (kept (xkw (Int.ofNat (kept (hdN (zX cs)))) (kept (qA (zX cs)).length))))).getD []) (zY cs))) (AV.bool (xam ((bytesOf (xan (kept (ofBytes (zq1 cs))) 0 (kept (xkw (Int.ofNat (kept (hdN (zX cs)))) (kept (qA (zX cs)).length))))).getD []) (zY cs)))::Cnd.same (AV.bool (xam ((bytesOf (xan (kept (ofBytes (zq1 cs))) 0 (kept (xkw (Int.ofNat (kept (hdN (zX cs)))) (kept (qA (zX cs)).length))))).getD []) (zY cs))) (AV.bool (xam ((bytesOf (xan (kept (ofBytes (zq1 cs))) 0 (kept (xkw (Int.ofNat (kept (hdN (zX cs)))) (kept (qA (zX cs)).length))))).getD []) (zY cs)))::cnT::Cnd.same (AV.agg [AV.int IntKind.u8 (Int.ofNat (kept (hdN (zX cs)))),AV.int IntKind.u8 (Int.ofNat (kept (xmc (zX cs)))),AV.int IntKind.u8 (Int.ofNat (kept (qPl (zX cs)))),AV.int IntKind.u32 (Int.ofNat (kept (qFi (zX cs)))),AV.int IntKind.u8 (Int.ofNat (kept (qCt (zX cs)))),AV.fsl (kept (xgh (qA (zX cs)).length)) (kept (qA (zX cs)).length) (zA1 cs),AV.fsl (kept (xgh (qD (zX cs)).length)) (kept (qD (zX cs)).length) (zD1 cs)]) (AV.agg [AV.int IntKind.u8 (Int.ofNat (kept (hdN (zX cs)))),AV.int IntKind.u8 (Int.ofNat (kept (xmc (zX cs)))),AV.int IntKind.u8 (Int.ofNat (kept (qPl (zX cs)))),AV.int IntKind.u32 (Int.ofNat (kept (qFi (zX cs)))),AV.int IntKind.u8 (Int.ofNat (kept (qCt (zX cs)))),AV.fsl (kept (xgh (qA (zX cs)).length)) (kept (qA (zX cs)).length) (zA1 cs),AV.fsl (kept (xgh (qD (zX cs)).length)) (kept (qD (zX cs)).length) (zD1 cs)])::cnT::Cnd.same (AV.agg [AV.int IntKind.u8 (Int.ofNat (kept (dOp (zY cs)))),AV.int IntKind.u8 (Int.ofNat (kept (xis (zY cs)))),AV.int IntKind.u8 (Int.ofNat (kept (dPl (zY cs)))),AV.int IntKind.u64 (Int.ofNat (kept (dFi (zY cs)))),AV.int IntKind.u8 (Int.ofNat (kept (dCt (zY cs)))),AV.fsl (kept (xgh (dA (zY cs)).length)) (kept (dA (zY cs)).length) (kept (xbs IntKind.u64 (dA (zY cs)))),AV.fsl (kept (xgh (dD (zY cs)).length)) (kept (dD (zY cs)).length) (kept (encS (dD (zY cs))))]) (AV.agg [AV.int IntKind.u8 (Int.ofNat (kept (dOp (zY cs)))),AV.int IntKind.u8 (Int.ofNat (kept (xis (zY cs)))),AV.int IntKind.u8 (Int.ofNat (kept (dPl (zY cs)))),AV.int IntKind.u64 (Int.ofNat (kept (dFi (zY cs)))),AV.int IntKind.u8 (Int.ofNat (kept (dCt (zY cs)))),AV.fsl (kept (xgh (dA (zY cs)).length)) (kept (dA (zY cs)).length) (kept (xbs IntKind.u64 (dA (zY cs)))),AV.fsl (kept (xgh (dD (zY cs)).length)) (kept (dD (zY cs)).length) (kept (encS (dD (zY cs))))])::Cnd.same (AV.agg [AV.int IntKind.u8 (Int.ofNat (kept (dOp (zY cs)))),AV.int IntKind.u8 (Int.ofNat (kept (xis (zY cs)))),AV.int IntKind.u8 (Int.ofNat (kept (dPl (zY cs)))),AV.int IntKind.u64 (Int.ofNat (kept (dFi (zY cs)))),AV.int IntKind.u8 (Int.ofNat (kept (dCt (zY cs)))),AV.fsl (kept (xgh (dA (zY cs)).length)) (kept (dA (zY cs)).length) (kept (xbs IntKind.u64 (dA (zY cs)))),AV.fsl (kept (xgh (dD (zY cs)).length)) (kept (dD (zY cs)).length) (kept (encS (dD (zY cs))))]) (AV.agg [AV.int IntKind.u8 (Int.ofNat (kept (dOp (zY cs)))),AV.int IntKind.u8 (Int.ofNat (kept (xis (zY cs)))),AV.int IntKind.u8 (Int.ofNat (kept (dPl (zY cs)))),AV.int IntKind.u64 (Int.ofNat (kept (dFi (zY cs)))),AV.int IntKind.u8 (Int.ofNat (kept (dCt (zY cs)))),AV.fsl (kept (xgh (dA (zY cs)).length)) (kept (dA (zY cs)).length) (kept (xbs IntKind.u64 (dA (zY cs)))),AV.fsl (kept (xgh (dD (zY cs)).length)) (kept (dD (zY cs)).length) (kept (encS (dD (zY cs))))])::Cnd.same (AV.agg [AV.int IntKind.u8 (Int.ofNat (kept (dOp (zY cs)))),AV.int IntKind.u8 (Int.ofNat (kept (xis (zY cs)))),AV.int IntKind.u8 (Int.ofNat (kept (dPl (zY cs)))),AV.int IntKind.u64 (Int.ofNat (kept (dFi (zY cs)))),AV.int IntKind.u8 (Int.ofNat (kept (dCt (zY cs)))),AV.fsl (kept (xgh (dA (zY cs)).length)) (kept (dA (zY cs)).length) (kept (xbs IntKind.u64 (dA (zY cs)))),AV.fsl (kept (xgh (dD (zY cs)).length)) (kept (dD (zY cs)).length) (kept (encS (dD (zY cs))))]) (AV.agg [AV.int IntKind.u8 (Int.ofNat (kept (dOp (zY cs)))),AV.int IntKind.u8 (Int.ofNat (kept (xis (zY cs)))),AV.int IntKind.u8 (Int.ofNat (kept (dPl (zY cs)))),AV.int IntKind.u64 (Int.ofNat (kept (dFi (zY cs)))),AV.int IntKind.u8 (Int.ofNat (kept (dCt (zY cs)))),AV.fsl (kept (xgh (dA (zY cs)).length)) (kept (dA (zY cs)).length) (kept (xbs IntKind.u64 (dA (zY cs)))),AV.fsl (kept (xgh (dD (zY cs)).length)) (kept (dD (zY cs)).length) (kept (encS (dD (zY cs))))])::cnT::cnT::cnT::cnT::Cnd.same (AV.bool (xam (kept (zd3 cs)) (kept (zd2 cs)))) (AV.bool (xam (kept (zd3 cs)) (kept (zd2 cs))))::cnT::Cnd.same (AV.bool (xam (kept (zd3 cs)) (kept (zd2 cs)))) (AV.bool (xam (kept (zd3 cs)) (kept (zd2 cs))))::Cnd.same (AV.bool (xam (kept (zd3 cs)) (kept (zd2 cs)))) (AV.bool (xam (kept (zd3 cs)) (kept (zd2 cs))))::[])) (by kernel_rfl) ⟨h0,h1,h2,h3,h4,h5,h6,h6,h7,h8,h9,h10,h11,h12,h13,h6,rfl,h14,h6,h12,h13,h14,h6,h12,h13,h7,h15,h15,h16,h17,h14,h12,h13,h14,h18,h12,h13,h19,h20,h21,h22,h22,h22,h22,h22,h23,h24,h25,h12,h13,h26,h27,h28,h29,h30,h31,h32,h33,h34,h35,h36,h37,h19,h20,h38,h38,h38,h12,h13,h28,h29,h30,h39,h31,h32,h40,h38,h41,h42,h28,h43,h44,h45,h46,h47,h33,h38,h48,h49,h50,h51,h52,h53,h54,h55,h56,h38,h38,rfl,h36,h37,rfl,rfl,h19,h20,rfl,rfl,rfl,rfl,h38,rfl,h38,rfl,rfl,rfl,h38,h38,h38,h38,rfl,h38,rfl,rfl,trivial⟩
set_option maxHeartbeats 8000000 in
theorem parses_run (nb:Bool) (w:List UInt8):∃ h',xbl C10C 60 (Tgt.fn 14) [.fsl nb w.length (ofBytes w)] H0=some (AV.bool true,h'):=by
 have be:=xmt
 by_cases h8:w.length ≤ 8000
 case neg =>
  have n8:xak (Int.ofNat 8000) (Int.ofNat w.length)=true:=by rw [xat];exact decide_eq_true (Int.ofNat_lt.2 (by omega))
  obtain ⟨h',h,_⟩:=lp_t nb w.length (ofBytes w) n8
  exact ⟨h',h⟩
 have n8:xak (Int.ofNat 8000) (Int.ofNat w.length)=false:=by rw [xat];exact decide_eq_false (fun h=>by have:=Int.ofNat_lt.1 h;omega)
 by_cases hw:w.length=0
 · have w0:w=[]:=List.eq_nil_of_length_eq_zero hw
   subst w0
   have dk:dOK []=false:=rfl
   have g0:goX 0 (xap []) 0=[]:=rfl
   have key:=lp_ftft nb 0 (ofBytes [])
   iterate 10
    replace key:=key (by
     (try simp only [zX,zY,zA1,zD1,zr0,zq1,zd2,zd3,xab,AV.intOf,List.nil_append,Nat.zero_add,Nat.mul_one,xal,xac,Option.getD_some,Option.isSome_some,xba,xho,xcn,xad,Bool.not_true,Bool.not_false,be,PL,PS,n8,dk,g0])
     first
      | done
      | with_reducible rfl
      | with_reducible exact xgj rfl
      | with_reducible assumption
      | exact xfb (by omega) (by omega)
      | (rw [xbn];exact decide_eq_true (by omega))
      | (rw [xbn];exact decide_eq_false (by omega))
      | (rw [xbq];exact decide_eq_true (by omega))
      | (rw [xax];exact decide_eq_true (Int.ofNat_le.2 (by omega)))
      | (rw [xat];exact decide_eq_true (Int.ofNat_lt.2 (by omega)))
      | rfl)
   obtain ⟨h',h,_⟩:=key
   exact ⟨h',h⟩
 have n0:Nat.beq w.length 0=false:=by rw [xbn];exact decide_eq_false hw
 cases hp:xbu w with
 | false =>
  have dk:dOK w=false:=by rw [dOK_par];exact hp
  have key:=lp_fftfft nb w.length (ofBytes w)
  iterate 22
   replace key:=key (by
    (try simp only [zX,zY,zA1,zD1,zr0,zq1,zd2,zd3,xab,AV.intOf,List.nil_append,Nat.zero_add,Nat.mul_one,xal,xac,Option.getD_some,Option.isSome_some,xba,xho,xcn,xad,Bool.not_true,Bool.not_false,be,PL,PS,n8,n0,hp,dk])
    first
     | done
     | with_reducible rfl
     | with_reducible exact xgj rfl
     | with_reducible assumption
     | exact xfb (by omega) (by omega)
     | (rw [xbn];exact decide_eq_true (by omega))
     | (rw [xbn];exact decide_eq_false (by omega))
     | (rw [xbq];exact decide_eq_true (by omega))
     | (rw [xax];exact decide_eq_true (Int.ofNat_le.2 (by omega)))
     | (rw [xat];exact decide_eq_true (Int.ofNat_lt.2 (by omega)))
     | rfl)
  obtain ⟨h',h,_⟩:=key
  exact ⟨h',h⟩
 | true =>
  obtain ⟨er,hR⟩:=parS_inv hp
  obtain ⟨hd,hB,dk⟩:=dS_ok hp
  have x0:dOp w=hdN w:=by unfold dOp;rw [hd]
  have x1:xis w=xmc w:=by unfold xis;rw [hd]
  have x2:dPl w=qPl w:=by unfold dPl;rw [hd]
  have x3:dFi w=qFi w:=by unfold dFi;rw [hd]
  have x4:dCt w=qCt w:=by unfold dCt;rw [hd]
  have x5:dA w=qA w:=by unfold dA;rw [hd]
  have x6:dD w=qD w:=by unfold dD;rw [hd]
  have db:xeb (Int.ofNat (hdN w)) (Int.ofNat (xmc w)) (Int.ofNat (qPl w)) (Int.ofNat (qFi w)) (Int.ofNat (qCt w)) (qA w).length (qD w).length (qA w) (qD w)=w:=by
   have:=hB;unfold dB at this;rw [hd] at this;exact this
  have er:=er.symm
  have hP:=xoa hR
  unfold xau at hP
  simp only [Int.ofNat_eq_natCast] at hP
  have lA:(qA w).length ≤ 16:=by omega
  have lD:(qD w).length ≤ 16:=by omega
  have lc:qCt w ≤ 255:=by omega
  have lp:=qPl_le (w:=w)
  have lf:=qFi_lt (w:=w)
  have ll:xkw (Int.ofNat (hdN w)) (qA w).length=w.length:=by
   have:=reqB_len (zs:=qA w) (ds:=(qD w).map fun b=>(false,b)) (by rw [List.length_map];exact hR)
   rw [← enD_enc,xho,er] at this
   exact this.symm
  have rc:xan (ofBytes w) 0 w.length=ofBytes w:=xfl _ _ rfl
  by_cases h4:hdN w=4
  · have t4:xae (Int.ofNat (hdN w)) (Int.ofNat 4)=true:=by rw [h4];rfl
    have w4:xam [UInt8.ofNat 4] w=true:=by
     rw [← er];unfold xgd
     rw [if_neg (by rw [h4];decide),if_neg (by rw [h4];decide),if_pos (by rw [h4];rfl),h4];rfl
    have key:=lp_ffttffttt nb w.length (ofBytes w)
    iterate 54
     replace key:=key (by
      (try simp only [zX,zY,zA1,zD1,zr0,zq1,zd2,zd3,xab,AV.intOf,List.nil_append,Nat.zero_add,Nat.mul_one,xal,xac,Option.getD_some,Option.isSome_some,xba,xho,xcn,xad,Bool.not_true,Bool.not_false,be,PL,PS,n8,n0,hp,hR,er,ll,db,x0,x1,x2,x3,x4,x5,x6,dk,lA,lD,rc,t4,w4])
      first
       | done
       | with_reducible rfl
       | with_reducible exact xgj rfl
       | with_reducible assumption
       | exact xfb (by omega) (by omega)
       | (rw [xbn];exact decide_eq_true (by omega))
       | (rw [xbn];exact decide_eq_false (by omega))
       | (rw [xbq];exact decide_eq_true (by omega))
       | (rw [xax];exact decide_eq_true (Int.ofNat_le.2 (by omega)))
       | (rw [xat];exact decide_eq_true (Int.ofNat_lt.2 (by omega)))
       | rfl)
    obtain ⟨h',h,_⟩:=key
    simp only [zX,zY,zA1,zD1,zr0,zq1,zd2,zd3,xab,AV.intOf,List.nil_append,Nat.zero_add,Nat.mul_one,xal,xac,Option.getD_some,Option.isSome_some,xba,xho,xcn,xad,Bool.not_true,Bool.not_false,be,PL,PS,n8,n0,hp,hR,er,ll,db,x0,x1,x2,x3,x4,x5,x6,dk,lA,lD,rc] at h
    exact ⟨h',h⟩
  · have t4:xae (Int.ofNat (hdN w)) (Int.ofNat 4)=false:=by rw [xaz];exact beq_eq_false_iff_ne.2 (fun h=>h4 (by injection h))
    have key:=lp_ffttfftft nb w.length (ofBytes w)
    iterate 57
     replace key:=key (by
      (try simp only [zX,zY,zA1,zD1,zr0,zq1,zd2,zd3,xab,AV.intOf,List.nil_append,Nat.zero_add,Nat.mul_one,xal,xac,Option.getD_some,Option.isSome_some,xba,xho,xcn,xad,Bool.not_true,Bool.not_false,be,PL,PS,n8,n0,hp,hR,er,ll,db,x0,x1,x2,x3,x4,x5,x6,dk,lA,lD,rc,t4])
      first
       | done
       | with_reducible rfl
       | with_reducible exact xgj rfl
       | with_reducible assumption
       | exact xfb (by omega) (by omega)
       | (rw [xbn];exact decide_eq_true (by omega))
       | (rw [xbn];exact decide_eq_false (by omega))
       | (rw [xbq];exact decide_eq_true (by omega))
       | (rw [xax];exact decide_eq_true (Int.ofNat_le.2 (by omega)))
       | (rw [xat];exact decide_eq_true (Int.ofNat_lt.2 (by omega)))
       | rfl)
    obtain ⟨h',h,_⟩:=key
    simp only [zX,zY,zA1,zD1,zr0,zq1,zd2,zd3,xab,AV.intOf,List.nil_append,Nat.zero_add,Nat.mul_one,xal,xac,Option.getD_some,Option.isSome_some,xba,xho,xcn,xad,Bool.not_true,Bool.not_false,be,PL,PS,n8,n0,hp,hR,er,ll,db,x0,x1,x2,x3,x4,x5,x6,dk,lA,lD,rc] at h
    exact ⟨h',h⟩
end Go.Proofs.Ytecncappdnhbaaa
end
end

section
noncomputable section
namespace Go.Ab
namespace M
end M
open M
end Go.Ab
namespace Go.Proofs.Ytecncappdnhbaaa
open Go.Ab.M Go.Ab Go
end Go.Proofs.Ytecncappdnhbaaa
end
end

section
noncomputable section
namespace Go.Proofs.Ytecncappdnhbaaa
open Go.Ab.M Go.Ab Go
end Go.Proofs.Ytecncappdnhbaaa
end
end

section
noncomputable section
namespace Go.Ab
namespace M
def q4 (x:Nat):List UInt8:=[UInt8.ofNat (x / 16777216),UInt8.ofNat (x / 65536),UInt8.ofNat (x / 256),UInt8.ofNat (x / 1)]
def b1 (x:Int):UInt8:=UInt8.ofNat (xaf IntKind.u8 x).toNat
end M
open M
end Go.Ab
namespace Go.Proofs.Ytecncappdnhbaaa
open Go.Ab.M Go.Ab Go
end Go.Proofs.Ytecncappdnhbaaa
end
end

section
noncomputable section
namespace Go.Ab
open M
end Go.Ab
namespace Go.Proofs.Ytecncappdnhbaaa
open Go.Ab.M Go.Ab Go
end Go.Proofs.Ytecncappdnhbaaa
end
end

section
noncomputable section
namespace Go.Proofs.Ytecncappdnhbaaa
open Go.Ab.M Go.Ab Go
end Go.Proofs.Ytecncappdnhbaaa
end
end

section
noncomputable section
namespace Go.Proofs.Ytecncappdnhbaaa
open Go.Ab.M Go.Ab Go
theorem int_is {k:IntKind} {us:List AV} (h:(IT.int k).is us):∃ n,us=[.int k n]∧k.min ≤ n∧n ≤ k.max:=by simpa only [IT.is] using h
theorem xqv:∀ {ls:List (List AV)},(∀ l ∈ ls,(IT.int .u8).is l∧l.length=1) → ∃ b:List UInt8,ls.flatten=ofBytes b∧b.length=ls.length
 | [],_=>⟨[],rfl,rfl⟩
 | l::ls,h=>by
  obtain ⟨b,hb,hl⟩:=xqv (fun x hx=>h x (List.mem_cons_of_mem _ hx))
  obtain ⟨n,rfl,h0,h1⟩:=int_is (h l (List.mem_cons_self ..)).1
  have h0':0 ≤ n:=h0
  have h1':n ≤ 255:=h1
  obtain ⟨m,rfl⟩:∃ m:Nat,n=(m:Int):=⟨n.toNat,by omega⟩
  refine ⟨UInt8.ofNat m::b,?_,by simp [hl]⟩
  show AV.int .u8 (m:Int)::ls.flatten=AV.int .u8 (((UInt8.ofNat m).toNat:Nat):Int)::ofBytes b
  rw [hb,UInt8.toNat_ofNat',Nat.mod_eq_of_lt (by omega)]
theorem bytes_is {us:List AV} (h:(IT.slice (.int .u8) 1).is us):∃ nl b,us=[.fsl nl b.length (ofBytes b)]:=by
 rw [IT.is] at h
 obtain ⟨nl,ls,rfl,_,_,h⟩:=h
 obtain ⟨b,hb,hl⟩:=xqv h
 exact ⟨nl,b,by rw [hb,hl]⟩
end Go.Proofs.Ytecncappdnhbaaa
end
end
