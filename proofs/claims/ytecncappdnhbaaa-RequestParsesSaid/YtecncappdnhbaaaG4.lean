/- Texts of the abstract machine and of the laws, merged. -/
import Derived.Test.YtecncappdnhbaaaGT
import Derived.Test.YtecncappdnhbaaaG3
set_option autoImplicit false
set_option linter.unusedVariables false
set_option linter.unusedSimpArgs false
set_option linter.unusedSectionVars false
set_option maxRecDepth 100000
section
noncomputable section
namespace Go.Proofs.Ytecncappdnhbaaa
open Go.Ab
abbrev tys:=T.get none atys
abbrev fns:=T.get none afns
abbrev C0:=mkCx tys fns [] []
theorem all0:xcy Try.prog C0:=xtb (fun _ h=>by cases h) (fun _ h=>by cases h)
end Go.Proofs.Ytecncappdnhbaaa
end
end

section
section
namespace Go.Ab
end Go.Ab
end
end

section
section
namespace Go.Ab
theorem xbe (k:IntKind) (m:Nat) (h:m < topK k):xaf k (m:Int)=m:=by rw [xgb];exact wrap_small k m h
theorem orN_nat (k:IntKind) (x y:Nat) (hx:x < topK k) (hy:y < topK k):orN k (x:Int) (y:Int)=((x ||| y:Nat):Int):=by
  have h:=iOr_eq k (x:Int) (y:Int)
  unfold iOr at h
  injection h with _ h
  rw [h,BitVec.toNat_or,xfi k x hx,xfi k y hy]
  obtain ⟨j,hj,_⟩:=xta k
  refine wrap_small k _ ?_
  rw [hj] at hx hy ⊢
  exact Nat.or_lt_two_pow hx hy
theorem xorN_nat (k:IntKind) (x y:Nat) (hx:x < topK k) (hy:y < topK k):xorN k (x:Int) (y:Int)=((x ^^^ y:Nat):Int):=by
  have h:=iXor_eq k (x:Int) (y:Int)
  unfold iXor at h
  injection h with _ h
  rw [h,BitVec.toNat_xor,xfi k x hx,xfi k y hy]
  obtain ⟨j,hj,_⟩:=xta k
  refine wrap_small k _ ?_
  rw [hj] at hx hy ⊢
  exact Nat.xor_lt_two_pow hx hy
theorem nat_of {x:Int} (h:xbr 0 x=true):∃ y:Nat,x=y:=by
  rw [xax] at h
  exact ⟨x.toNat,by have:=of_decide_eq_true h;omega⟩
theorem lt_of {x y:Nat} (h:xak (x:Int) (y:Int)=true):x < y:=by
  rw [xat] at h
  have:=of_decide_eq_true h;omega
end Go.Ab
end
end

section
noncomputable section
namespace Go.Proofs.Ytecncappdnhbaaa
open Go Go.Ab
end Go.Proofs.Ytecncappdnhbaaa
namespace Go.Ab.M
end Go.Ab.M
namespace Go.Proofs.Ytecncappdnhbaaa
open Go.Ab.M Go.Ab Go
end Go.Proofs.Ytecncappdnhbaaa
end
end

section
noncomputable section
namespace Go.Ab.M
end Go.Ab.M
namespace Go.Proofs.Ytecncappdnhbaaa
open Go.Ab.M Go.Ab Go
abbrev F01:xuf:=[(63,xcf.const (.int .i64 (Int.ofNat 8))),(64,xcf.const (.int .i64 (Int.ofNat 16))),(65,xcf.const (.int .i64 (Int.ofNat 32))),(66,xcf.const (.int .i64 (Int.ofNat 64))),(15,xcf.const (.bool true))]
abbrev C01:=mkCx tys fns F01 []
theorem bits_u8 :
 ∃ h',xbl C0 100 (Tgt.fn 63) [] H0=some (AV.int IntKind.i64 (Int.ofNat 8),h')∧[].map h'.get=[] :=
 xco (q:=(cs 17 [])) (c:=[]) (by kernel_rfl) trivial
theorem bits_u16 :
 ∃ h',xbl C0 100 (Tgt.fn 64) [] H0=some (AV.int IntKind.i64 (Int.ofNat 16),h')∧[].map h'.get=[] :=
 xco (q:=(cs 33 [])) (c:=[]) (by kernel_rfl) trivial
theorem bits_u32 :
 ∃ h',xbl C0 100 (Tgt.fn 65) [] H0=some (AV.int IntKind.i64 (Int.ofNat 32),h')∧[].map h'.get=[] :=
 xco (q:=(cs 65 [])) (c:=[]) (by kernel_rfl) trivial
theorem bits_u64 :
 ∃ h',xbl C0 100 (Tgt.fn 66) [] H0=some (AV.int IntKind.i64 (Int.ofNat 64),h')∧[].map h'.get=[] :=
 xco (q:=(cs 129 [])) (c:=[]) (by kernel_rfl) trivial
theorem lives01 :
 ∃ h',xbl C0 100 (Tgt.fn 15) [] H0=some (AV.bool true,h')∧[].map h'.get=[] :=
 xco (q:=(cs 80 [])) (c:=[]) (by kernel_rfl) trivial
theorem f01_ok:∀ p ∈ F01,xcf.Sound Try.prog tys p.1 p.2:=by
 intro p h
 simp only [F01,List.mem_cons,List.not_mem_nil,or_false] at h
 rcases h with rfl | rfl | rfl | rfl | rfl
 · exact xcf.sound (xbd _ _) all0 (xcf.const_ok rfl (let ⟨h',h,_⟩:=bits_u8;⟨h',h⟩))
 · exact xcf.sound (xbd _ _) all0 (xcf.const_ok rfl (let ⟨h',h,_⟩:=bits_u16;⟨h',h⟩))
 · exact xcf.sound (xbd _ _) all0 (xcf.const_ok rfl (let ⟨h',h,_⟩:=bits_u32;⟨h',h⟩))
 · exact xcf.sound (xbd _ _) all0 (xcf.const_ok rfl (let ⟨h',h,_⟩:=bits_u64;⟨h',h⟩))
 · exact xcf.sound (xbd _ _) all0 (xcf.const_ok rfl (let ⟨h',h,_⟩:=lives01;⟨h',h⟩))
theorem all01:xcy Try.prog C01:=xtb f01_ok (fun _ h=>by cases h)
end Go.Proofs.Ytecncappdnhbaaa
end
end

section
noncomputable section
namespace Go.Ab
namespace M
def kept {α:Type} (a:α):α:=Classical.choose (⟨a,rfl⟩:∃ x,x=a)
theorem xab {α:Type} (a:α):kept a=a:=Classical.choose_spec (⟨a,rfl⟩:∃ x,x=a)
def u8:AV → Bool
  | .int k n=>decide (k=.u8) && xbr 0 n && xak n 256
  | _=>false
def u8L (l:List AV):Bool:=List.rec (motive:=fun _=>Bool) true (fun v _ r=>cb (u8 v) r false) l
def byte (v:AV):UInt8:=UInt8.ofNat v.intOf.toNat
def xap (l:List AV):List UInt8:=l.map byte
def xdf (w x:Nat):List UInt8:=(List.range w).map fun i=>UInt8.ofNat (x / 256 ^ (w - 1 - i))
def xkk (l:List UInt8):Nat:=l.foldl (fun x b=>x*256+b.toNat) 0
end M
open M
theorem u8_iff {v:AV}:M.u8 v=true ↔ ∃ b:UInt8,v=.int .u8 b.toNat:=by
  constructor
  · intro h
    cases v <;> simp only [M.u8] at h <;> try (cases h;done)
    rename_i k n
    simp only [Bool.and_eq_true,decide_eq_true_eq,xax,xat] at h
    obtain ⟨⟨rfl,h1⟩,h2⟩:=h
    refine ⟨UInt8.ofNat n.toNat,?_⟩
    congr 1
    have:(UInt8.ofNat n.toNat).toNat=n.toNat % 256:=by simp
    rw [this];omega
  · rintro ⟨b,rfl⟩
    have:=b.toNat_lt
    simp only [M.u8,Bool.and_eq_true,decide_eq_true_eq,xax,xat]
    refine ⟨⟨trivial,by omega⟩,by omega⟩
theorem u8L_cons (v:AV) (l:List AV):u8L (v::l)=(M.u8 v && u8L l):=by
  show cb (M.u8 v) (u8L l) false=_
  cases M.u8 v <;> rfl
theorem xfs (b:UInt8) (l:List UInt8):ofBytes (b::l)=.int .u8 b.toNat::ofBytes l:=rfl
theorem xcr (a b:List UInt8):ofBytes (a++b)=ofBytes a++ofBytes b:=by simp [ofBytes]
theorem xad (l:List UInt8):(ofBytes l).length=l.length:=by simp [ofBytes]
theorem xbc (l:List UInt8):u8L (ofBytes l)=true:=by
  induction l with
  | nil=>rfl
  | cons b l ih=>rw [xfs,u8L_cons,ih,Bool.and_true];exact u8_iff.2 ⟨b,rfl⟩
theorem xdr {cs:List AV}:u8L cs=true ↔ ∃ l,cs=ofBytes l:=by
  constructor
  · intro h
    induction cs with
    | nil=>exact ⟨[],rfl⟩
    | cons v cs ih =>
      rw [u8L_cons,Bool.and_eq_true] at h
      obtain ⟨b,rfl⟩:=u8_iff.1 h.1
      obtain ⟨l,rfl⟩:=ih h.2
      exact ⟨b::l,rfl⟩
  · rintro ⟨l,rfl⟩;exact xbc l
theorem xun (b:UInt8):M.byte (.int .u8 b.toNat)=b:=by
  show UInt8.ofNat ((b.toNat:Int).toNat)=b
  simp
theorem xal (l:List UInt8):xap (ofBytes l)=l:=by
  induction l with
  | nil=>rfl
  | cons b l ih =>
    show M.byte _::xap (ofBytes l)=_
    rw [ih,xun]
theorem xac (l:List UInt8):bytesOf (ofBytes l)=some l:=by
  induction l with
  | nil=>rfl
  | cons b l ih =>
    rw [xfs]
    show ((byteOf (.int .u8 b.toNat)).ob fun c=>(bytesOf (ofBytes l)).ob fun r=>some (c::r))=_
    rw [ih]
    show some (UInt8.ofNat ((b.toNat:Int).toNat)::l)=_
    simp
theorem xey (nf:Bool) (l:List UInt8):AV.okL nf (fun _=>false) (ofBytes l)=true:=by
  induction l with
  | nil=>rfl
  | cons b l ih=>rw [xfs];simp only [AV.okL,AV.ok,Bool.true_and];exact ih
theorem xao (l:List UInt8):AV.plainL (ofBytes l)=true:=by
  induction l with
  | nil=>rfl
  | cons b l ih=>rw [xfs];simp only [AV.plainL,AV.plain,Bool.true_and];exact ih
theorem xfz (l:List UInt8):(ofBytes l).all AV.isCell=true:=by
  induction l with
  | nil=>rfl
  | cons b l ih=>rw [xfs,List.all_cons,ih];rfl
theorem ofBytes_take (l:List UInt8) (n:Nat):(ofBytes l).take n=ofBytes (l.take n):=by simp [ofBytes,List.map_take]
theorem ofBytes_drop (l:List UInt8) (n:Nat):(ofBytes l).drop n=ofBytes (l.drop n):=by simp [ofBytes,List.map_drop]
theorem xhd (l:List UInt8) (o n:Nat):xan (ofBytes l) o n=ofBytes ((l.drop o).take n):=by
  unfold xan;rw [ofBytes_drop,ofBytes_take]
theorem xjg (l:List UInt8) (i:Nat) (h:i < l.length):xbp (ofBytes l) i=some (.int .u8 (l[i]).toNat):=by
  rw [xdj];simp [ofBytes,List.getElem?_map,h]
theorem xcv (w x:Nat):(xdf w x).length=w:=by simp [xdf]
theorem xjv (a:List UInt8) (b:UInt8):xkk (a++[b])=xkk a*256+b.toNat:=by simp [xkk]
theorem rev_ind {α:Type} {P:List α → Prop} (h0:P []) (h:∀ l a,P l → P (l++[a])) (l:List α):P l:=by
  have key:∀ m:List α,P m.reverse:=by
    intro m
    induction m with
    | nil=>exact h0
    | cons a m ih=>rw [List.reverse_cons];exact h _ _ ih
  have:=key l.reverse
  rwa [List.reverse_reverse] at this
theorem getN_lt (l:List UInt8):xkk l < 256 ^ l.length:=by
  induction l using rev_ind with
  | h0=>simp [xkk]
  | h l b ih =>
    rw [xjv,List.length_append,List.length_singleton,Nat.pow_succ]
    have:=b.toNat_lt
    have:xkk l+1 ≤ 256 ^ l.length:=ih
    calc xkk l*256+b.toNat < (xkk l+1)*256:=by omega
      _ ≤ 256 ^ l.length*256:=Nat.mul_le_mul_right _ this
theorem putB_succ (w x:Nat):xdf (w+1) x=xdf w (x / 256)++[UInt8.ofNat x]:=by
  unfold xdf
  rw [List.range_succ,List.map_append]
  congr 1
  · apply List.map_congr_left
    intro i hi
    have hi:i < w:=List.mem_range.1 hi
    congr 1
    rw [show w+1 - 1 - i=(w - 1 - i)+1 by omega,Nat.pow_succ,Nat.mul_comm,Nat.div_div_eq_div_mul]
  · simp
theorem getN_putB (w x:Nat) (h:x < 256 ^ w):xkk (xdf w x)=x:=by
  induction w generalizing x with
  | zero=>simp at h;subst h;rfl
  | succ w ih =>
    rw [putB_succ,xjv,ih (x / 256) (by rw [Nat.pow_succ] at h;omega)]
    have:(UInt8.ofNat x).toNat=x % 256:=by simp
    rw [this];omega
theorem putB_getN (l:List UInt8):xdf l.length (xkk l)=l:=by
  induction l using rev_ind with
  | h0=>rfl
  | h l b ih =>
    rw [List.length_append,List.length_singleton,putB_succ,xjv]
    have hb:=b.toNat_lt
    have e:(xkk l*256+b.toNat) / 256=xkk l:=by omega
    rw [e,ih]
    congr 2
    apply UInt8.toNat_inj.1
    have:(UInt8.ofNat (xkk l*256+b.toNat)).toNat=(xkk l*256+b.toNat) % 256:=by simp
    rw [this];omega
end Go.Ab
end
end

section
noncomputable section
namespace Go.Ab
theorem shr_byte (x j:Nat):xaf .u8 (xkx (x:Int) (8*j))=((UInt8.ofNat (x / 256 ^ j)).toNat:Int):=by
 have e:xkx (x:Int) (8*j)=((x / 2 ^ (8*j):Nat):Int):=rfl
 rw [e,xgb]
 simp only [IntKind.wrap,IntKind.signed,IntKind.bits,Bool.false_and,Bool.false_eq_true,if_false]
 have h:(UInt8.ofNat (x / 256 ^ j)).toNat=x / 256 ^ j % 256:=by simp
 have h2:(2:Nat) ^ (8*j)=256 ^ j:=by rw [Nat.pow_mul]
 rw [h,h2];simp
theorem xfb {len k:Nat} (h:len ≤ 1099511627776) (hk:k ≤ 1099511627776):xch 1 len k=true:=by
 unfold xch;exact decide_eq_true (by omega)
theorem xrs {a b:Nat} (h:a=b):Nat.beq a b=true:=by rw [xbn];exact decide_eq_true h
theorem xgj {a b:Nat} (h:a=b):Nat.beq a (Nat.mul b 1)=true:=by rw [xbn];exact decide_eq_true (by show a=b*1;omega)
theorem xeg {a b:Nat} (h:a ≤ b):Nat.ble a b=true:=by rw [xbq];exact decide_eq_true h
theorem xaj {a b:Nat} (h:Nat.beq a b=true):a=b:=Nat.eq_of_beq_eq_true h
theorem xqs {a b:Nat} (h:Nat.ble a b=true):a ≤ b:=Nat.le_of_ble_eq_true h
end Go.Ab
namespace Go.Proofs.Ytecncappdnhbaaa
open Go.Ab.M Go.Ab Go
def cloneR:xcf:=xcf.nb true fun us=>match us with
 | [.fsl true 0 []]=>some ([],fun _=>.slice none 0 (some 0),[])
 | [.fsl false len cs]=>some ([Nat.beq cs.length len,u8L cs,Nat.ble len 1099511627776],fun n=>.slice (some (n,0)) len none,[.cells true 5 len cs])
 | _=>none
abbrev F03a:xuf:=[(67,cloneR)]++F01
abbrev C03a:=mkCx tys fns F03a []
theorem cloneN :
 ∃ h',xbl C0 60 (Tgt.fn 67) [.fsl true 0 []] H0=some (AV.slice none 0 (some 0),h')∧[].map h'.get=[] :=
 xco (q:=qNs [3]) (c:=([])) (by kernel_rfl) trivial
theorem clone0 (len:Nat) (cs:List AV) (h0:(cs.length.beq (len.mul 1))=true) (h1:(len.beq 0)=true) :
 ∃ h',xbl C0 60 (Tgt.fn 67) [.fsl false len cs] H0=some (AV.slice (some (0,0)) 0 (some 0),h')∧[0].map h'.get=[.cells true 5 0 []] :=
 xco (q:=qNs [4,0,0]) (c:=(cnT::cnT::[])) (by kernel_rfl) ⟨h0,h1,trivial⟩
theorem clone1 (len:Nat) (cs:List AV) (h0:(cs.length.beq (len.mul 1))=true) (h1:(len.beq 0)=false) (h2:(xch 1 0 len)=true) (h3:(Nat.ble 1 (0+len))=true) :
 ∃ h',xbl C0 60 (Tgt.fn 67) [.fsl false len cs] H0=some (AV.slice (some (1,0)) (0+len) none,h')∧[1].map h'.get=[.cells true 5 ([]++cs).length ([]++cs)] :=
 xco (q:=qNs [4,0,1,0,0,3]) (c:=(cnT::cnF::cnT::cnT::[])) (by kernel_rfl) ⟨h0,h1,h2,h3,trivial⟩
theorem cloneR_ok:xcf.Sound Try.prog tys 67 cloneR:=by
 refine xcf.sound (xbd _ _) all0 (xcf.nb_ok fun us c v bs hm hc=>?_)
 split at hm
 · injection hm with hm;injection hm with e1 hm;injection hm with e2 e3;subst e1;subst e2;subst e3
   obtain ⟨h',h,_⟩:=cloneN
   exact ⟨(fun b hb=>by cases hb),60,h',[],_,h,rfl,(fun l l' j e=>by cases e),rfl,fun n ρ hρ=>AV.Le.refl _⟩
 · rename_i len cs
   injection hm with hm;injection hm with e1 hm;injection hm with e2 e3;subst e1;subst e2;subst e3
   simp only [xah] at hc
   obtain ⟨c1,c2,c3,_⟩:=hc
   have c1:=xaj c1
   have c3:=xqs c3
   obtain ⟨l,rfl⟩:=xdr.1 c2
   refine ⟨fun b hb=>?_,?_⟩
   · have:b=.cells true 5 len (ofBytes l):=by simpa using hb
     subst this
     simp only [Blk.plainOwn,xey,Bool.and_self]
   · by_cases h0:len=0
     · obtain ⟨h',h,hb⟩:=clone0 len (ofBytes l) (xgj c1) (xrs h0)
       refine ⟨60,h',[0],_,h,?_,xhv 0,rfl,fun n ρ hρ=>?_⟩
       · rw [hb,h0]
         have:ofBytes l=[]:=List.eq_nil_of_length_eq_zero (by omega)
         rw [this]
       · have:=hρ 0 0 rfl
         simp only [AV.ren,Option.map_some,this,Nat.add_zero,h0]
         exact AV.Le.empty n
     · obtain ⟨h',h,hb⟩:=clone1 len (ofBytes l) (xgj c1) (by rw [xbn];exact decide_eq_false h0) (xfb (by omega) c3) (xeg (by omega))
       refine ⟨60,h',[1],_,h,?_,xhv 1,rfl,fun n ρ hρ=>?_⟩
       · rw [hb,List.nil_append,c1]
       · have:=hρ 0 1 rfl
         simp only [AV.ren,Option.map_some,this,Nat.add_zero,Nat.zero_add]
         exact AV.Le.refl _
 · cases hm
theorem f03a_ok:∀ p ∈ F03a,xcf.Sound Try.prog tys p.1 p.2:=by
 intro p h
 rcases List.mem_cons.1 h with rfl | h
 · exact cloneR_ok
 · exact f01_ok p h
theorem all03a:xcy Try.prog C03a:=xtb f03a_ok (fun _ h=>by cases h)
theorem putu32N (x:Int) :
 ∃ h',xbl C03a 60 (Tgt.fn 78) [.fsl true 0 [], .int .u32 x] H0=some (AV.slice (some (7,0)) 4 none,h')∧[7].map h'.get=[.cells true 5 4 [.int .u8 (xaf IntKind.u8 (xkx x 24)), .int .u8 (xaf IntKind.u8 (xkx x 16)), .int .u8 (xaf IntKind.u8 (xkx x 8)), .int .u8 (xaf IntKind.u8 (xkx x 0))]] :=
 xco (q:=qNs [42]) (c:=([])) (by kernel_rfl) trivial
theorem putu32 (x:Int) (len:Nat) (cs:List AV) (h0:(AV.plainL cs)=true) (h1:(cs.length.beq len)=true) (h2:(u8L cs)=true) (h3:(len.ble 1099511627776)=true) (h4:(xch 1 len 1)=true) (h5:(len.beq (len*1))=true) (h6:(xch 1 (len+1) 1)=true) (h7:((cs++[AV.int IntKind.u8 (xaf IntKind.u8 (xkx x 24))]).length.beq ((len+1)*1))=true) (h8:(xch 1 (len+1+1) 1)=true) (h9:((cs++[AV.int IntKind.u8 (xaf IntKind.u8 (xkx x 24))]++[AV.int IntKind.u8 (xaf IntKind.u8 (xkx x 16))]).length.beq ((len+1+1)*1))=true) (h10:(xch 1 (len+1+1+1) 1)=true) (h11:((cs++[AV.int IntKind.u8 (xaf IntKind.u8 (xkx x 24))]++[AV.int IntKind.u8 (xaf IntKind.u8 (xkx x 16))]++[AV.int IntKind.u8 (xaf IntKind.u8 (xkx x 8))]).length.beq ((len+1+1+1)*1))=true) :
 ∃ h',xbl C03a 60 (Tgt.fn 78) [.fsl false len cs, .int .u32 x] H0=some (AV.slice (some (8,0)) (len+1+1+1+1) none,h')∧[8].map h'.get=[.cells true 5 (cs++[AV.int IntKind.u8 (xaf IntKind.u8 (xkx x 24))]++[AV.int IntKind.u8 (xaf IntKind.u8 (xkx x 16))]++[AV.int IntKind.u8 (xaf IntKind.u8 (xkx x 8))]++[AV.int IntKind.u8 (xaf IntKind.u8 (xkx x 0))]).length (cs++[AV.int IntKind.u8 (xaf IntKind.u8 (xkx x 24))]++[AV.int IntKind.u8 (xaf IntKind.u8 (xkx x 16))]++[AV.int IntKind.u8 (xaf IntKind.u8 (xkx x 8))]++[AV.int IntKind.u8 (xaf IntKind.u8 (xkx x 0))])] :=
 xco (q:=qNs [0,0,0,0,9,0,0,10,0,0,10,0,0,10,0,0,4]) (c:=(cnT::cnT::cnT::cnT::cnT::cnT::cnT::cnT::cnT::cnT::cnT::cnT::[])) (by kernel_rfl) ⟨h0,h1,h2,h3,h4,h5,h6,h7,h8,h9,h10,h11,trivial⟩
theorem cells_u32 (x:Nat) (hx:x < 4294967296):[AV.int .u8 (xaf .u8 (xkx (x:Int) 24)),AV.int .u8 (xaf .u8 (xkx (x:Int) 16)),AV.int .u8 (xaf .u8 (xkx (x:Int) 8)),AV.int .u8 (xaf .u8 (xkx (x:Int) 0))]=ofBytes (xdf 4 x):=by
 have h:ofBytes (xdf 4 x)=[.int .u8 ((UInt8.ofNat (x / 256 ^ 3)).toNat:Int), .int .u8 ((UInt8.ofNat (x / 256 ^ 2)).toNat:Int), .int .u8 ((UInt8.ofNat (x / 256 ^ 1)).toNat:Int), .int .u8 ((UInt8.ofNat (x / 256 ^ 0)).toNat:Int)]:=rfl
 rw [h]
 have s:∀ j,xaf .u8 (xkx (x:Int) (8*j))=((UInt8.ofNat (x / 256 ^ j)).toNat:Int):=shr_byte x
 have s0:=s 0
 have s1:=s 1
 have s2:=s 2
 have s3:=s 3
 simp only [← s0,← s1,← s2,← s3]
def putRu32:xcf:=xcf.nb true fun us=>match us with
 | [.fsl true 0 [], .int .u32 x]=>some ([xbr 0 x,xak x 4294967296],fun n=>.slice (some (n,0)) 4 none,[.cells true 5 4 (kept (ofBytes (xdf 4 x.toNat)))])
 | [.fsl false len cs, .int .u32 x]=>some ([Nat.beq cs.length len,u8L cs,Nat.ble len 1000000000000,xbr 0 x,xak x 4294967296],fun n=>.slice (some (n,0)) (len+4) none,[.cells true 5 (len+4) (cs++kept (ofBytes (xdf 4 x.toNat)))])
 | _=>none
theorem putRu32_ok:xcf.Sound Try.prog tys 78 putRu32:=by
 refine xcf.sound (xbd _ _) all03a (xcf.nb_ok fun us c v bs hm hc=>?_)
 split at hm
 · injection hm with hm;injection hm with e1 hm;injection hm with e2 e3;rw [xab] at e3;subst e1;subst e2;subst e3
   simp only [xah] at hc
   obtain ⟨c1,c2,_⟩:=hc
   obtain ⟨x,rfl⟩:=nat_of c1
   have c2:x < 4294967296:=lt_of c2
   obtain ⟨h',h,hb⟩:=putu32N x
   refine ⟨fun b hb=>?_,60,h',[7],_,h,?_,xhv 7,rfl,fun n ρ hρ=>?_⟩
   · have:b=.cells true 5 4 (ofBytes (xdf 4 x)):=by simpa using hb
     subst this
     simp only [Blk.plainOwn,xey,Bool.and_self]
   · rw [hb,cells_u32 x c2];rfl
   · have:=hρ 0 7 rfl
     simp only [AV.ren,Option.map_some,this,Nat.add_zero]
     exact AV.Le.refl _
 · rename_i len cs x
   injection hm with hm;injection hm with e1 hm;injection hm with e2 e3;rw [xab] at e3;subst e1;subst e2;subst e3
   simp only [xah] at hc
   obtain ⟨c1,c2,c3,c4,c5,_⟩:=hc
   have c1:=xaj c1
   have c3:=xqs c3
   obtain ⟨l,rfl⟩:=xdr.1 c2
   obtain ⟨x,rfl⟩:=nat_of c4
   have c5:x < 4294967296:=lt_of c5
   obtain ⟨h',h,hb⟩:=putu32 x len (ofBytes l) (xao l) (xrs c1) c2 (xeg (by omega)) (xfb (by omega) (by omega)) (xrs (by simp only [xad,List.length_append,List.length_cons,List.length_nil] at c1 ⊢;omega)) (xfb (by omega) (by omega)) (xrs (by simp only [xad,List.length_append,List.length_cons,List.length_nil] at c1 ⊢;omega)) (xfb (by omega) (by omega)) (xrs (by simp only [xad,List.length_append,List.length_cons,List.length_nil] at c1 ⊢;omega)) (xfb (by omega) (by omega)) (xrs (by simp only [xad,List.length_append,List.length_cons,List.length_nil] at c1 ⊢;omega))
   refine ⟨fun b hb=>?_,60,h',[8],_,h,?_,xhv 8,rfl,fun n ρ hρ=>?_⟩
   · have:b=.cells true 5 (len+4) (ofBytes l++ofBytes (xdf 4 x)):=by simpa using hb
     subst this
     rw [← xcr]
     simp only [Blk.plainOwn,xey,Bool.and_self]
   · rw [hb]
     try simp only [List.append_assoc,List.cons_append,List.nil_append]
     rw [cells_u32 x c5,List.length_append,c1,xad,xcv];rfl
   · have:=hρ 0 8 rfl
     simp only [AV.ren,Option.map_some,this,Nat.add_zero]
     exact AV.Le.refl _
 · cases hm
end Go.Proofs.Ytecncappdnhbaaa
end
end

section
noncomputable section
namespace Go.Ab
namespace M
def getI (w:Nat) (cs:List AV):Int:=kept (if w ≤ cs.length then ((xkk ((xap cs).take w):Nat):Int) else 0)
end M
open M
theorem xft (w:Nat) (l:List UInt8):getI w (ofBytes l)=if w ≤ l.length then ((xkk (l.take w):Nat):Int) else 0:=by
 unfold getI;rw [xab,xad,xal]
theorem or_first (b:UInt8):orN .u64 (Int.ofNat 0) (xaf .u64 (Int.ofNat b.toNat))=((b.toNat:Nat):Int):=by
 have hb:=b.toNat_lt
 have e:xaf .u64 (Int.ofNat b.toNat)=((b.toNat:Nat):Int):=xbe .u64 _ (by show _ < 18446744073709551616;omega)
 rw [e]
 have:=orN_nat .u64 0 b.toNat (by decide) (by show _ < 18446744073709551616;omega)
 rw [Nat.zero_or] at this
 exact this
theorem or_step (a:Nat) (b:UInt8) (h:a < 72057594037927936):orN .u64 (shlN .u64 (a:Int) 8) (xaf .u64 (Int.ofNat b.toNat))=((a*256+b.toNat:Nat):Int):=by
 have hb:=b.toNat_lt
 have e:xaf .u64 (Int.ofNat b.toNat)=((b.toNat:Nat):Int):=xbe .u64 _ (by show _ < 18446744073709551616;omega)
 have e2:shlN .u64 (a:Int) 8=((a*256:Nat):Int):=by
  rw [shlN_eq]
  have:(a:Int)*2 ^ 8=((a*256:Nat):Int):=by simp
  rw [this];exact wrap_small .u64 _ (by show _ < 18446744073709551616;omega)
 rw [e,e2,orN_nat .u64 _ _ (by show _ < 18446744073709551616;omega) (by show _ < 18446744073709551616;omega)]
 congr 1
 have:=Nat.shiftLeft_add_eq_or_of_lt (i:=8) (b:=b.toNat) (by omega) a
 rw [Nat.shiftLeft_eq] at this
 exact this.symm
theorem xkh (b:UInt8):xaf .u64 ((Int.ofNat 0).add (xaf .u64 (Int.ofNat b.toNat)))=((b.toNat:Nat):Int):=by
 have hb:=b.toNat_lt
 have e:xaf .u64 (Int.ofNat b.toNat)=((b.toNat:Nat):Int):=xbe .u64 _ (by show _ < 18446744073709551616;omega)
 rw [e]
 have:(Int.ofNat 0).add ((b.toNat:Nat):Int)=((b.toNat:Nat):Int):=by show (0:Int)+_=_;omega
 rw [this];exact e
theorem xfa (a:Nat) (b:UInt8) (h:a < 72057594037927936):xaf .u64 ((xaf .u64 ((a:Int).mul (Int.ofNat 256))).add (xaf .u64 (Int.ofNat b.toNat)))=((a*256+b.toNat:Nat):Int):=by
 have hb:=b.toNat_lt
 have e:xaf .u64 (Int.ofNat b.toNat)=((b.toNat:Nat):Int):=xbe .u64 _ (by show _ < 18446744073709551616;omega)
 have e1:(a:Int).mul (Int.ofNat 256)=((a*256:Nat):Int):=by show (a:Int)*((256:Nat):Int)=_;rw [Int.natCast_mul]
 rw [e,e1,xbe .u64 (a*256) (by show _ < 18446744073709551616;omega)]
 have:Int.add ((a*256:Nat):Int) ((b.toNat:Nat):Int)=((a*256+b.toNat:Nat):Int):=by show ((a*256:Nat):Int)+((b.toNat:Nat):Int)=_;rw [Int.natCast_add]
 rw [this];exact xbe .u64 _ (by show _ < 18446744073709551616;omega)
theorem xfc (y:Nat) (h:y < 18446744073709551616):xaf .u64 ((y:Int).tdiv (Int.ofNat 256))=((y / 256:Nat):Int):=by
 have e:(y:Int).tdiv (Int.ofNat 256)=((y / 256:Nat):Int):=rfl
 rw [e];exact xbe .u64 _ (by show _ < 18446744073709551616;omega)
theorem xkr (y:Nat):xaf .u8 ((y:Int).tmod (Int.ofNat 256))=((UInt8.ofNat y).toNat:Int):=by
 have e:(y:Int).tmod (Int.ofNat 256)=((y % 256:Nat):Int):=rfl
 have h:(UInt8.ofNat y).toNat=y % 256:=by simp
 rw [e,h];exact xbe .u8 _ (Nat.mod_lt _ (by decide))
end Go.Ab
namespace Go.Proofs.Ytecncappdnhbaaa
open Go.Ab.M Go.Ab Go
theorem getu32A (nl:Bool) (len:Nat) (l:List UInt8) (h0:(xak (Int.ofNat len) (Int.ofNat 4))=true) :
 ∃ h',xbl C01 60 (Tgt.fn 79) [.fsl nl len (ofBytes l)] H0=some (AV.tuple [.int .u32 (Int.ofNat 0), .bool false],h')∧[].map h'.get=[] :=
 xco (q:=qNs [3,0]) (c:=(cnT::[])) (by kernel_rfl) ⟨h0,trivial⟩
theorem getu32B (nl:Bool) (len:Nat) (b0:UInt8) (b1:UInt8) (b2:UInt8) (b3:UInt8) (cs:List AV) (h0:(xak (Int.ofNat len) (Int.ofNat 4))=false) (h1:((AV.int IntKind.u8 (Int.ofNat b0.toNat)::AV.int IntKind.u8 (Int.ofNat b1.toNat)::AV.int IntKind.u8 (Int.ofNat b2.toNat)::AV.int IntKind.u8 (Int.ofNat b3.toNat)::cs).length.beq (len.mul 1))=true) (h2:(Nat.ble 4 len)=true) :
 ∃ h',xbl C01 60 (Tgt.fn 79) [.fsl nl len (AV.int IntKind.u8 (Int.ofNat b0.toNat)::AV.int IntKind.u8 (Int.ofNat b1.toNat)::AV.int IntKind.u8 (Int.ofNat b2.toNat)::AV.int IntKind.u8 (Int.ofNat b3.toNat)::cs)] H0=some (AV.tuple [.int .u32 (xaf IntKind.u32 (orN IntKind.u64 (shlN IntKind.u64 (orN IntKind.u64 (shlN IntKind.u64 (orN IntKind.u64 (shlN IntKind.u64 (orN IntKind.u64 (Int.ofNat 0) (xaf IntKind.u64 (AV.int IntKind.u8 (Int.ofNat b0.toNat)).intOf)) 8) (xaf IntKind.u64 (AV.int IntKind.u8 (Int.ofNat b1.toNat)).intOf)) 8) (xaf IntKind.u64 (AV.int IntKind.u8 (Int.ofNat b2.toNat)).intOf)) 8) (xaf IntKind.u64 (AV.int IntKind.u8 (Int.ofNat b3.toNat)).intOf))), .bool true],h')∧[].map h'.get=[] :=
 xco (q:=qNs [3,1,0,3,0,31]) (c:=(cnF::cnT::cnT::[])) (by kernel_rfl) ⟨h0,h1,h2,trivial⟩
def getRu32:xcf:=xcf.pl true fun us=>match us with
 | [.fsl nl len cs]=>some ([Nat.beq cs.length len,u8L cs], .tuple [.int .u32 (getI 4 cs), .bool (Nat.ble 4 len)])
 | _=>none
theorem getRu32_ok:xcf.Sound Try.prog tys 79 getRu32:=by
 refine xcf.sound (xbd _ _) all01 (xcf.pl_ok fun us c v hm hc=>?_)
 split at hm
 · rename_i nl len cs
   injection hm with hm;injection hm with e1 e2;subst e1;subst e2
   simp only [xah] at hc
   obtain ⟨c1,c2,_⟩:=hc
   have c1:=xaj c1
   obtain ⟨l,rfl⟩:=xdr.1 c2
   rw [xad] at c1
   refine ⟨rfl,60,?_⟩
   rw [xft]
   by_cases hl:4 ≤ l.length
   · rw [if_pos hl,xeg (by omega)]
     have hil:xak (Int.ofNat len) (Int.ofNat 4)=false:=by rw [xat];exact decide_eq_false (by show ¬ (len:Int) < ((4:Nat):Int);omega)
     rcases l with _ | ⟨b0,l⟩
     · simp at hl;try omega
     rcases l with _ | ⟨b1,l⟩
     · simp at hl;try omega
     rcases l with _ | ⟨b2,l⟩
     · simp at hl;try omega
     rcases l with _ | ⟨b3,l⟩
     · simp at hl;try omega
     obtain ⟨h',h,_⟩:=getu32B nl len b0 b1 b2 b3 (ofBytes l) hil (xgj (by simp only [List.length_cons,xad] at c1 ⊢;omega)) (xeg (by simp only [List.length_cons] at c1;omega))
     have q0:=b0.toNat_lt;have q1:=b1.toNat_lt;have q2:=b2.toNat_lt;have q3:=b3.toNat_lt;
     refine ⟨h',?_⟩
     refine Eq.trans h ?_
     simp only [AV.intOf]
     rw [or_first b0,or_step (b0.toNat) b1 (by omega),or_step ((b0.toNat*256+b1.toNat)) b2 (by omega),or_step (((b0.toNat*256+b1.toNat)*256+b2.toNat)) b3 (by omega),xbe .u32 _ (by show _ < 4294967296;omega)]
     have hg:xkk (List.take 4 (b0::b1::b2::b3::l))=(((b0.toNat*256+b1.toNat)*256+b2.toNat)*256+b3.toNat):=by simp [xkk]
     rw [hg]
   · rw [if_neg hl]
     obtain ⟨h',h,_⟩:=getu32A nl len (ofBytes l |> fun _=>l) (by rw [xat];exact decide_eq_true (by show (len:Int) < ((4:Nat):Int);omega))
     have:Nat.ble 4 len=false:=by rw [xbq];exact decide_eq_false (by omega)
     rw [this];exact ⟨h',h⟩
 · cases hm
def isW (w:Nat):Bool:=Nat.beq w 1 || Nat.beq w 2 || Nat.beq w 4 || Nat.beq w 8
theorem xpi {w:Nat} (h:isW w=true):w=1 ∨ w=2 ∨ w=4 ∨ w=8:=by
 simp only [isW,xbn,Bool.or_eq_true,decide_eq_true_eq] at h;omega
theorem rget1A (nl:Bool) (len:Nat) (l:List UInt8) (h0:(xak (Int.ofNat len) (Int.ofNat 1))=true) :
 ∃ h',xbl C01 60 (Tgt.fn 76) [.fsl nl len (ofBytes l), .int .i64 (Int.ofNat 1)] H0=some (AV.tuple [.int .u64 (Int.ofNat 0), .bool false],h')∧[].map h'.get=[] :=
 xco (q:=qNs [0]) (c:=(cnT::[])) (by kernel_rfl) ⟨h0,trivial⟩
theorem rget1B (nl:Bool) (len:Nat) (b0:UInt8) (cs:List AV) (h0:(xak (Int.ofNat len) (Int.ofNat 1))=false) (h1:(Nat.ble 1 len)=true) (h2:((AV.int IntKind.u8 (Int.ofNat b0.toNat)::cs).length.beq (len.mul 1))=true) :
 ∃ h',xbl C01 60 (Tgt.fn 76) [.fsl nl len (AV.int IntKind.u8 (Int.ofNat b0.toNat)::cs), .int .i64 (Int.ofNat 1)] H0=some (AV.tuple [.int .u64 (xaf IntKind.u64 ((Int.ofNat 0).add (xaf IntKind.u64 (AV.int IntKind.u8 (Int.ofNat b0.toNat)).intOf))), .bool true],h')∧[].map h'.get=[] :=
 xco (q:=qNs [1,4,0,0,5]) (c:=(cnF::cnT::cnT::[])) (by kernel_rfl) ⟨h0,h1,h2,trivial⟩
theorem rput1 (x:Int) :
 ∃ h',xbl C01 60 (Tgt.fn 49) [.int .u64 x, .int .i64 (Int.ofNat 1)] H0=some (AV.slice (some (0,0)) 1 (some 1),h')∧[0].map h'.get=[.cells true 5 1 [.int .u8 (xaf IntKind.u8 (x.tmod (Int.ofNat 256)))]] :=
 xco (q:=qNs [15]) (c:=([])) (by kernel_rfl) trivial
theorem rget2A (nl:Bool) (len:Nat) (l:List UInt8) (h0:(xak (Int.ofNat len) (Int.ofNat 2))=true) :
 ∃ h',xbl C01 60 (Tgt.fn 76) [.fsl nl len (ofBytes l), .int .i64 (Int.ofNat 2)] H0=some (AV.tuple [.int .u64 (Int.ofNat 0), .bool false],h')∧[].map h'.get=[] :=
 xco (q:=qNs [0]) (c:=(cnT::[])) (by kernel_rfl) ⟨h0,trivial⟩
theorem rget2B (nl:Bool) (len:Nat) (b0:UInt8) (b1:UInt8) (cs:List AV) (h0:(xak (Int.ofNat len) (Int.ofNat 2))=false) (h1:(Nat.ble 1 len)=true) (h2:((AV.int IntKind.u8 (Int.ofNat b0.toNat)::AV.int IntKind.u8 (Int.ofNat b1.toNat)::cs).length.beq (len.mul 1))=true) (h3:(Nat.ble 2 len)=true) :
 ∃ h',xbl C01 60 (Tgt.fn 76) [.fsl nl len (AV.int IntKind.u8 (Int.ofNat b0.toNat)::AV.int IntKind.u8 (Int.ofNat b1.toNat)::cs), .int .i64 (Int.ofNat 2)] H0=some (AV.tuple [.int .u64 (xaf IntKind.u64 ((xaf IntKind.u64 ((xaf IntKind.u64 ((Int.ofNat 0).add (xaf IntKind.u64 (AV.int IntKind.u8 (Int.ofNat b0.toNat)).intOf))).mul (Int.ofNat 256))).add (xaf IntKind.u64 (AV.int IntKind.u8 (Int.ofNat b1.toNat)).intOf))), .bool true],h')∧[].map h'.get=[] :=
 xco (q:=qNs [1,4,0,0,6,0,0,5]) (c:=(cnF::cnT::cnT::cnT::cnT::[])) (by kernel_rfl) ⟨h0,h1,h2,h3,h2,trivial⟩
theorem rput2 (x:Int) :
 ∃ h',xbl C01 60 (Tgt.fn 49) [.int .u64 x, .int .i64 (Int.ofNat 2)] H0=some (AV.slice (some (0,0)) 2 (some 2),h')∧[0].map h'.get=[.cells true 5 2 [.int .u8 (xaf IntKind.u8 ((xaf IntKind.u64 (x.tdiv (Int.ofNat 256))).tmod (Int.ofNat 256))), .int .u8 (xaf IntKind.u8 (x.tmod (Int.ofNat 256)))]] :=
 xco (q:=qNs [23]) (c:=([])) (by kernel_rfl) trivial
theorem rget4A (nl:Bool) (len:Nat) (l:List UInt8) (h0:(xak (Int.ofNat len) (Int.ofNat 4))=true) :
 ∃ h',xbl C01 60 (Tgt.fn 76) [.fsl nl len (ofBytes l), .int .i64 (Int.ofNat 4)] H0=some (AV.tuple [.int .u64 (Int.ofNat 0), .bool false],h')∧[].map h'.get=[] :=
 xco (q:=qNs [0]) (c:=(cnT::[])) (by kernel_rfl) ⟨h0,trivial⟩
theorem rget4B (nl:Bool) (len:Nat) (b0:UInt8) (b1:UInt8) (b2:UInt8) (b3:UInt8) (cs:List AV) (h0:(xak (Int.ofNat len) (Int.ofNat 4))=false) (h1:(Nat.ble 1 len)=true) (h2:((AV.int IntKind.u8 (Int.ofNat b0.toNat)::AV.int IntKind.u8 (Int.ofNat b1.toNat)::AV.int IntKind.u8 (Int.ofNat b2.toNat)::AV.int IntKind.u8 (Int.ofNat b3.toNat)::cs).length.beq (len.mul 1))=true) (h3:(Nat.ble 2 len)=true) (h4:(Nat.ble 3 len)=true) (h5:(Nat.ble 4 len)=true) :
 ∃ h',xbl C01 60 (Tgt.fn 76) [.fsl nl len (AV.int IntKind.u8 (Int.ofNat b0.toNat)::AV.int IntKind.u8 (Int.ofNat b1.toNat)::AV.int IntKind.u8 (Int.ofNat b2.toNat)::AV.int IntKind.u8 (Int.ofNat b3.toNat)::cs), .int .i64 (Int.ofNat 4)] H0=some (AV.tuple [.int .u64 (xaf IntKind.u64 ((xaf IntKind.u64 ((xaf IntKind.u64 ((xaf IntKind.u64 ((xaf IntKind.u64 ((xaf IntKind.u64 ((xaf IntKind.u64 ((Int.ofNat 0).add (xaf IntKind.u64 (AV.int IntKind.u8 (Int.ofNat b0.toNat)).intOf))).mul (Int.ofNat 256))).add (xaf IntKind.u64 (AV.int IntKind.u8 (Int.ofNat b1.toNat)).intOf))).mul (Int.ofNat 256))).add (xaf IntKind.u64 (AV.int IntKind.u8 (Int.ofNat b2.toNat)).intOf))).mul (Int.ofNat 256))).add (xaf IntKind.u64 (AV.int IntKind.u8 (Int.ofNat b3.toNat)).intOf))), .bool true],h')∧[].map h'.get=[] :=
 xco (q:=qNs [1,4,0,0,6,0,0,6,0,0,6,0,0,5]) (c:=(cnF::cnT::cnT::cnT::cnT::cnT::cnT::cnT::cnT::[])) (by kernel_rfl) ⟨h0,h1,h2,h3,h2,h4,h2,h5,h2,trivial⟩
theorem rput4 (x:Int) :
 ∃ h',xbl C01 60 (Tgt.fn 49) [.int .u64 x, .int .i64 (Int.ofNat 4)] H0=some (AV.slice (some (0,0)) 4 (some 4),h')∧[0].map h'.get=[.cells true 5 4 [.int .u8 (xaf IntKind.u8 ((xaf IntKind.u64 ((xaf IntKind.u64 ((xaf IntKind.u64 (x.tdiv (Int.ofNat 256))).tdiv (Int.ofNat 256))).tdiv (Int.ofNat 256))).tmod (Int.ofNat 256))), .int .u8 (xaf IntKind.u8 ((xaf IntKind.u64 ((xaf IntKind.u64 (x.tdiv (Int.ofNat 256))).tdiv (Int.ofNat 256))).tmod (Int.ofNat 256))), .int .u8 (xaf IntKind.u8 ((xaf IntKind.u64 (x.tdiv (Int.ofNat 256))).tmod (Int.ofNat 256))), .int .u8 (xaf IntKind.u8 (x.tmod (Int.ofNat 256)))]] :=
 xco (q:=qNs [39]) (c:=([])) (by kernel_rfl) trivial
theorem rget8A (nl:Bool) (len:Nat) (l:List UInt8) (h0:(xak (Int.ofNat len) (Int.ofNat 8))=true) :
 ∃ h',xbl C01 60 (Tgt.fn 76) [.fsl nl len (ofBytes l), .int .i64 (Int.ofNat 8)] H0=some (AV.tuple [.int .u64 (Int.ofNat 0), .bool false],h')∧[].map h'.get=[] :=
 xco (q:=qNs [0]) (c:=(cnT::[])) (by kernel_rfl) ⟨h0,trivial⟩
theorem rget8B (nl:Bool) (len:Nat) (b0:UInt8) (b1:UInt8) (b2:UInt8) (b3:UInt8) (b4:UInt8) (b5:UInt8) (b6:UInt8) (b7:UInt8) (cs:List AV) (h0:(xak (Int.ofNat len) (Int.ofNat 8))=false) (h1:(Nat.ble 1 len)=true) (h2:((AV.int IntKind.u8 (Int.ofNat b0.toNat)::AV.int IntKind.u8 (Int.ofNat b1.toNat)::AV.int IntKind.u8 (Int.ofNat b2.toNat)::AV.int IntKind.u8 (Int.ofNat b3.toNat)::AV.int IntKind.u8 (Int.ofNat b4.toNat)::AV.int IntKind.u8 (Int.ofNat b5.toNat)::AV.int IntKind.u8 (Int.ofNat b6.toNat)::AV.int IntKind.u8 (Int.ofNat b7.toNat)::cs).length.beq (len.mul 1))=true) (h3:(Nat.ble 2 len)=true) (h4:(Nat.ble 3 len)=true) (h5:(Nat.ble 4 len)=true) (h6:(Nat.ble 5 len)=true) (h7:(Nat.ble 6 len)=true) (h8:(Nat.ble 7 len)=true) (h9:(Nat.ble 8 len)=true) :
 ∃ h',xbl C01 60 (Tgt.fn 76) [.fsl nl len (AV.int IntKind.u8 (Int.ofNat b0.toNat)::AV.int IntKind.u8 (Int.ofNat b1.toNat)::AV.int IntKind.u8 (Int.ofNat b2.toNat)::AV.int IntKind.u8 (Int.ofNat b3.toNat)::AV.int IntKind.u8 (Int.ofNat b4.toNat)::AV.int IntKind.u8 (Int.ofNat b5.toNat)::AV.int IntKind.u8 (Int.ofNat b6.toNat)::AV.int IntKind.u8 (Int.ofNat b7.toNat)::cs), .int .i64 (Int.ofNat 8)] H0=some (AV.tuple [.int .u64 (xaf IntKind.u64 ((xaf IntKind.u64 ((xaf IntKind.u64 ((xaf IntKind.u64 ((xaf IntKind.u64 ((xaf IntKind.u64 ((xaf IntKind.u64 ((xaf IntKind.u64 ((xaf IntKind.u64 ((xaf IntKind.u64 ((xaf IntKind.u64 ((xaf IntKind.u64 ((xaf IntKind.u64 ((xaf IntKind.u64 ((xaf IntKind.u64 ((Int.ofNat 0).add (xaf IntKind.u64 (AV.int IntKind.u8 (Int.ofNat b0.toNat)).intOf))).mul (Int.ofNat 256))).add (xaf IntKind.u64 (AV.int IntKind.u8 (Int.ofNat b1.toNat)).intOf))).mul (Int.ofNat 256))).add (xaf IntKind.u64 (AV.int IntKind.u8 (Int.ofNat b2.toNat)).intOf))).mul (Int.ofNat 256))).add (xaf IntKind.u64 (AV.int IntKind.u8 (Int.ofNat b3.toNat)).intOf))).mul (Int.ofNat 256))).add (xaf IntKind.u64 (AV.int IntKind.u8 (Int.ofNat b4.toNat)).intOf))).mul (Int.ofNat 256))).add (xaf IntKind.u64 (AV.int IntKind.u8 (Int.ofNat b5.toNat)).intOf))).mul (Int.ofNat 256))).add (xaf IntKind.u64 (AV.int IntKind.u8 (Int.ofNat b6.toNat)).intOf))).mul (Int.ofNat 256))).add (xaf IntKind.u64 (AV.int IntKind.u8 (Int.ofNat b7.toNat)).intOf))), .bool true],h')∧[].map h'.get=[] :=
 xco (q:=qNs [1,4,0,0,6,0,0,6,0,0,6,0,0,6,0,0,6,0,0,6,0,0,6,0,0,5]) (c:=(cnF::cnT::cnT::cnT::cnT::cnT::cnT::cnT::cnT::cnT::cnT::cnT::cnT::cnT::cnT::cnT::cnT::[])) (by kernel_rfl) ⟨h0,h1,h2,h3,h2,h4,h2,h5,h2,h6,h2,h7,h2,h8,h2,h9,h2,trivial⟩
theorem rput8 (x:Int) :
 ∃ h',xbl C01 60 (Tgt.fn 49) [.int .u64 x, .int .i64 (Int.ofNat 8)] H0=some (AV.slice (some (0,0)) 8 (some 8),h')∧[0].map h'.get=[.cells true 5 8 [.int .u8 (xaf IntKind.u8 ((xaf IntKind.u64 ((xaf IntKind.u64 ((xaf IntKind.u64 ((xaf IntKind.u64 ((xaf IntKind.u64 ((xaf IntKind.u64 ((xaf IntKind.u64 (x.tdiv (Int.ofNat 256))).tdiv (Int.ofNat 256))).tdiv (Int.ofNat 256))).tdiv (Int.ofNat 256))).tdiv (Int.ofNat 256))).tdiv (Int.ofNat 256))).tdiv (Int.ofNat 256))).tmod (Int.ofNat 256))), .int .u8 (xaf IntKind.u8 ((xaf IntKind.u64 ((xaf IntKind.u64 ((xaf IntKind.u64 ((xaf IntKind.u64 ((xaf IntKind.u64 ((xaf IntKind.u64 (x.tdiv (Int.ofNat 256))).tdiv (Int.ofNat 256))).tdiv (Int.ofNat 256))).tdiv (Int.ofNat 256))).tdiv (Int.ofNat 256))).tdiv (Int.ofNat 256))).tmod (Int.ofNat 256))), .int .u8 (xaf IntKind.u8 ((xaf IntKind.u64 ((xaf IntKind.u64 ((xaf IntKind.u64 ((xaf IntKind.u64 ((xaf IntKind.u64 (x.tdiv (Int.ofNat 256))).tdiv (Int.ofNat 256))).tdiv (Int.ofNat 256))).tdiv (Int.ofNat 256))).tdiv (Int.ofNat 256))).tmod (Int.ofNat 256))), .int .u8 (xaf IntKind.u8 ((xaf IntKind.u64 ((xaf IntKind.u64 ((xaf IntKind.u64 ((xaf IntKind.u64 (x.tdiv (Int.ofNat 256))).tdiv (Int.ofNat 256))).tdiv (Int.ofNat 256))).tdiv (Int.ofNat 256))).tmod (Int.ofNat 256))), .int .u8 (xaf IntKind.u8 ((xaf IntKind.u64 ((xaf IntKind.u64 ((xaf IntKind.u64 (x.tdiv (Int.ofNat 256))).tdiv (Int.ofNat 256))).tdiv (Int.ofNat 256))).tmod (Int.ofNat 256))), .int .u8 (xaf IntKind.u8 ((xaf IntKind.u64 ((xaf IntKind.u64 (x.tdiv (Int.ofNat 256))).tdiv (Int.ofNat 256))).tmod (Int.ofNat 256))), .int .u8 (xaf IntKind.u8 ((xaf IntKind.u64 (x.tdiv (Int.ofNat 256))).tmod (Int.ofNat 256))), .int .u8 (xaf IntKind.u8 (x.tmod (Int.ofNat 256)))]] :=
 xco (q:=qNs [71]) (c:=([])) (by kernel_rfl) trivial
def rgetR:xcf:=xcf.pl true fun us=>match us with
 | [.fsl nl len cs, .int .i64 (.ofNat w)]=>some ([Nat.beq cs.length len,u8L cs,isW w], .tuple [.int .u64 (getI w cs), .bool (Nat.ble w len)])
 | _=>none
theorem rgetR_ok:xcf.Sound Try.prog tys 76 rgetR:=by
 refine xcf.sound (xbd _ _) all01 (xcf.pl_ok fun us c v hm hc=>?_)
 split at hm
 · rename_i nl len cs w
   injection hm with hm;injection hm with e1 e2;subst e1;subst e2
   simp only [xah] at hc
   obtain ⟨c1,c2,c3,_⟩:=hc
   have c1:=xaj c1
   obtain ⟨l,rfl⟩:=xdr.1 c2
   rw [xad] at c1
   refine ⟨rfl,60,?_⟩
   rw [xft]
   by_cases hl:w ≤ l.length
   · rw [if_pos hl,xeg (by omega)]
     have hil:xak (Int.ofNat len) (Int.ofNat w)=false:=by rw [xat];exact decide_eq_false (by show ¬ (len:Int) < ((w:Nat):Int);omega)
     rcases xpi c3 with rfl | rfl | rfl | rfl
     · rcases l with _ | ⟨b0,l⟩
       · simp at hl;try omega
       obtain ⟨h',h,_⟩:=rget1B nl len b0 (ofBytes l) hil (xeg (by simp only [List.length_cons] at c1;omega)) (xgj (by simp only [List.length_cons,xad] at c1 ⊢;omega))
       have q0:=b0.toNat_lt;
       refine ⟨h',Eq.trans h ?_⟩
       simp only [AV.intOf]
       rw [xkh b0]
       have hg:xkk (List.take 1 (b0::l))=b0.toNat:=by simp [xkk]
       rw [hg]
     · rcases l with _ | ⟨b0,l⟩
       · simp at hl;try omega
       rcases l with _ | ⟨b1,l⟩
       · simp at hl;try omega
       obtain ⟨h',h,_⟩:=rget2B nl len b0 b1 (ofBytes l) hil (xeg (by simp only [List.length_cons] at c1;omega)) (xgj (by simp only [List.length_cons,xad] at c1 ⊢;omega)) (xeg (by simp only [List.length_cons] at c1;omega))
       have q0:=b0.toNat_lt;have q1:=b1.toNat_lt;
       refine ⟨h',Eq.trans h ?_⟩
       simp only [AV.intOf]
       rw [xkh b0,xfa (b0.toNat) b1 (by omega)]
       have hg:xkk (List.take 2 (b0::b1::l))=(b0.toNat*256+b1.toNat):=by simp [xkk]
       rw [hg]
     · rcases l with _ | ⟨b0,l⟩
       · simp at hl;try omega
       rcases l with _ | ⟨b1,l⟩
       · simp at hl;try omega
       rcases l with _ | ⟨b2,l⟩
       · simp at hl;try omega
       rcases l with _ | ⟨b3,l⟩
       · simp at hl;try omega
       obtain ⟨h',h,_⟩:=rget4B nl len b0 b1 b2 b3 (ofBytes l) hil (xeg (by simp only [List.length_cons] at c1;omega)) (xgj (by simp only [List.length_cons,xad] at c1 ⊢;omega)) (xeg (by simp only [List.length_cons] at c1;omega)) (xeg (by simp only [List.length_cons] at c1;omega)) (xeg (by simp only [List.length_cons] at c1;omega))
       have q0:=b0.toNat_lt;have q1:=b1.toNat_lt;have q2:=b2.toNat_lt;have q3:=b3.toNat_lt;
       refine ⟨h',Eq.trans h ?_⟩
       simp only [AV.intOf]
       rw [xkh b0,xfa (b0.toNat) b1 (by omega),xfa ((b0.toNat*256+b1.toNat)) b2 (by omega),xfa (((b0.toNat*256+b1.toNat)*256+b2.toNat)) b3 (by omega)]
       have hg:xkk (List.take 4 (b0::b1::b2::b3::l))=(((b0.toNat*256+b1.toNat)*256+b2.toNat)*256+b3.toNat):=by simp [xkk]
       rw [hg]
     · rcases l with _ | ⟨b0,l⟩
       · simp at hl;try omega
       rcases l with _ | ⟨b1,l⟩
       · simp at hl;try omega
       rcases l with _ | ⟨b2,l⟩
       · simp at hl;try omega
       rcases l with _ | ⟨b3,l⟩
       · simp at hl;try omega
       rcases l with _ | ⟨b4,l⟩
       · simp at hl;try omega
       rcases l with _ | ⟨b5,l⟩
       · simp at hl;try omega
       rcases l with _ | ⟨b6,l⟩
       · simp at hl;try omega
       rcases l with _ | ⟨b7,l⟩
       · simp at hl;try omega
       obtain ⟨h',h,_⟩:=rget8B nl len b0 b1 b2 b3 b4 b5 b6 b7 (ofBytes l) hil (xeg (by simp only [List.length_cons] at c1;omega)) (xgj (by simp only [List.length_cons,xad] at c1 ⊢;omega)) (xeg (by simp only [List.length_cons] at c1;omega)) (xeg (by simp only [List.length_cons] at c1;omega)) (xeg (by simp only [List.length_cons] at c1;omega)) (xeg (by simp only [List.length_cons] at c1;omega)) (xeg (by simp only [List.length_cons] at c1;omega)) (xeg (by simp only [List.length_cons] at c1;omega)) (xeg (by simp only [List.length_cons] at c1;omega))
       have q0:=b0.toNat_lt;have q1:=b1.toNat_lt;have q2:=b2.toNat_lt;have q3:=b3.toNat_lt;have q4:=b4.toNat_lt;have q5:=b5.toNat_lt;have q6:=b6.toNat_lt;have q7:=b7.toNat_lt;
       refine ⟨h',Eq.trans h ?_⟩
       simp only [AV.intOf]
       rw [xkh b0,xfa (b0.toNat) b1 (by omega),xfa ((b0.toNat*256+b1.toNat)) b2 (by omega),xfa (((b0.toNat*256+b1.toNat)*256+b2.toNat)) b3 (by omega),xfa ((((b0.toNat*256+b1.toNat)*256+b2.toNat)*256+b3.toNat)) b4 (by omega),xfa (((((b0.toNat*256+b1.toNat)*256+b2.toNat)*256+b3.toNat)*256+b4.toNat)) b5 (by omega),xfa ((((((b0.toNat*256+b1.toNat)*256+b2.toNat)*256+b3.toNat)*256+b4.toNat)*256+b5.toNat)) b6 (by omega),xfa (((((((b0.toNat*256+b1.toNat)*256+b2.toNat)*256+b3.toNat)*256+b4.toNat)*256+b5.toNat)*256+b6.toNat)) b7 (by omega)]
       have hg:xkk (List.take 8 (b0::b1::b2::b3::b4::b5::b6::b7::l))=(((((((b0.toNat*256+b1.toNat)*256+b2.toNat)*256+b3.toNat)*256+b4.toNat)*256+b5.toNat)*256+b6.toNat)*256+b7.toNat):=by simp [xkk]
       rw [hg]
   · rw [if_neg hl]
     have hil:xak (Int.ofNat len) (Int.ofNat w)=true:=by rw [xat];exact decide_eq_true (by show (len:Int) < ((w:Nat):Int);omega)
     have:Nat.ble w len=false:=by rw [xbq];exact decide_eq_false (by omega)
     rw [this]
     rcases xpi c3 with rfl | rfl | rfl | rfl
     · obtain ⟨h',h,_⟩:=rget1A nl len l hil;exact ⟨h',h⟩
     · obtain ⟨h',h,_⟩:=rget2A nl len l hil;exact ⟨h',h⟩
     · obtain ⟨h',h,_⟩:=rget4A nl len l hil;exact ⟨h',h⟩
     · obtain ⟨h',h,_⟩:=rget8A nl len l hil;exact ⟨h',h⟩
 · cases hm
theorem rcells1 (x:Nat) (hx:x < 18446744073709551616):[AV.int .u8 (xaf .u8 ((x:Int).tmod (Int.ofNat 256)))]=ofBytes (xdf 1 x):=by
 have h:ofBytes (xdf 1 x)=[.int .u8 ((UInt8.ofNat (x / 256 ^ 0)).toNat:Int)]:=rfl
 have e0:(x:Int)=((x / 256 ^ 0:Nat):Int):=by simp
 rw [h,e0]
 try simp only [xkr]
 try simp only [xkr]
theorem rcells2 (x:Nat) (hx:x < 18446744073709551616):[AV.int .u8 (xaf .u8 ((xaf .u64 ((x:Int).tdiv (Int.ofNat 256))).tmod (Int.ofNat 256))),AV.int .u8 (xaf .u8 ((x:Int).tmod (Int.ofNat 256)))]=ofBytes (xdf 2 x):=by
 have h:ofBytes (xdf 2 x)=[.int .u8 ((UInt8.ofNat (x / 256 ^ 1)).toNat:Int), .int .u8 ((UInt8.ofNat (x / 256 ^ 0)).toNat:Int)]:=rfl
 have e0:(x:Int)=((x / 256 ^ 0:Nat):Int):=by simp
 have d0:xaf .u64 (((x / 256 ^ 0:Nat):Int).tdiv (Int.ofNat 256))=((x / 256 ^ 1:Nat):Int):=by rw [xfc _ (by omega),Nat.div_div_eq_div_mul,← Nat.pow_succ]
 rw [h,e0]
 try simp only [d0]
 try simp only [xkr]
theorem rcells4 (x:Nat) (hx:x < 18446744073709551616):[AV.int .u8 (xaf .u8 ((xaf .u64 ((xaf .u64 ((xaf .u64 ((x:Int).tdiv (Int.ofNat 256))).tdiv (Int.ofNat 256))).tdiv (Int.ofNat 256))).tmod (Int.ofNat 256))),AV.int .u8 (xaf .u8 ((xaf .u64 ((xaf .u64 ((x:Int).tdiv (Int.ofNat 256))).tdiv (Int.ofNat 256))).tmod (Int.ofNat 256))),AV.int .u8 (xaf .u8 ((xaf .u64 ((x:Int).tdiv (Int.ofNat 256))).tmod (Int.ofNat 256))),AV.int .u8 (xaf .u8 ((x:Int).tmod (Int.ofNat 256)))]=ofBytes (xdf 4 x):=by
 have h:ofBytes (xdf 4 x)=[.int .u8 ((UInt8.ofNat (x / 256 ^ 3)).toNat:Int), .int .u8 ((UInt8.ofNat (x / 256 ^ 2)).toNat:Int), .int .u8 ((UInt8.ofNat (x / 256 ^ 1)).toNat:Int), .int .u8 ((UInt8.ofNat (x / 256 ^ 0)).toNat:Int)]:=rfl
 have e0:(x:Int)=((x / 256 ^ 0:Nat):Int):=by simp
 have d0:xaf .u64 (((x / 256 ^ 0:Nat):Int).tdiv (Int.ofNat 256))=((x / 256 ^ 1:Nat):Int):=by rw [xfc _ (by omega),Nat.div_div_eq_div_mul,← Nat.pow_succ]
 have d1:xaf .u64 (((x / 256 ^ 1:Nat):Int).tdiv (Int.ofNat 256))=((x / 256 ^ 2:Nat):Int):=by rw [xfc _ (by omega),Nat.div_div_eq_div_mul,← Nat.pow_succ]
 have d2:xaf .u64 (((x / 256 ^ 2:Nat):Int).tdiv (Int.ofNat 256))=((x / 256 ^ 3:Nat):Int):=by rw [xfc _ (by omega),Nat.div_div_eq_div_mul,← Nat.pow_succ]
 rw [h,e0]
 try simp only [d0,d1,d2]
 try simp only [xkr]
theorem rcells8 (x:Nat) (hx:x < 18446744073709551616):[AV.int .u8 (xaf .u8 ((xaf .u64 ((xaf .u64 ((xaf .u64 ((xaf .u64 ((xaf .u64 ((xaf .u64 ((xaf .u64 ((x:Int).tdiv (Int.ofNat 256))).tdiv (Int.ofNat 256))).tdiv (Int.ofNat 256))).tdiv (Int.ofNat 256))).tdiv (Int.ofNat 256))).tdiv (Int.ofNat 256))).tdiv (Int.ofNat 256))).tmod (Int.ofNat 256))),AV.int .u8 (xaf .u8 ((xaf .u64 ((xaf .u64 ((xaf .u64 ((xaf .u64 ((xaf .u64 ((xaf .u64 ((x:Int).tdiv (Int.ofNat 256))).tdiv (Int.ofNat 256))).tdiv (Int.ofNat 256))).tdiv (Int.ofNat 256))).tdiv (Int.ofNat 256))).tdiv (Int.ofNat 256))).tmod (Int.ofNat 256))),AV.int .u8 (xaf .u8 ((xaf .u64 ((xaf .u64 ((xaf .u64 ((xaf .u64 ((xaf .u64 ((x:Int).tdiv (Int.ofNat 256))).tdiv (Int.ofNat 256))).tdiv (Int.ofNat 256))).tdiv (Int.ofNat 256))).tdiv (Int.ofNat 256))).tmod (Int.ofNat 256))),AV.int .u8 (xaf .u8 ((xaf .u64 ((xaf .u64 ((xaf .u64 ((xaf .u64 ((x:Int).tdiv (Int.ofNat 256))).tdiv (Int.ofNat 256))).tdiv (Int.ofNat 256))).tdiv (Int.ofNat 256))).tmod (Int.ofNat 256))),AV.int .u8 (xaf .u8 ((xaf .u64 ((xaf .u64 ((xaf .u64 ((x:Int).tdiv (Int.ofNat 256))).tdiv (Int.ofNat 256))).tdiv (Int.ofNat 256))).tmod (Int.ofNat 256))),AV.int .u8 (xaf .u8 ((xaf .u64 ((xaf .u64 ((x:Int).tdiv (Int.ofNat 256))).tdiv (Int.ofNat 256))).tmod (Int.ofNat 256))),AV.int .u8 (xaf .u8 ((xaf .u64 ((x:Int).tdiv (Int.ofNat 256))).tmod (Int.ofNat 256))),AV.int .u8 (xaf .u8 ((x:Int).tmod (Int.ofNat 256)))]=ofBytes (xdf 8 x):=by
 have h:ofBytes (xdf 8 x)=[.int .u8 ((UInt8.ofNat (x / 256 ^ 7)).toNat:Int), .int .u8 ((UInt8.ofNat (x / 256 ^ 6)).toNat:Int), .int .u8 ((UInt8.ofNat (x / 256 ^ 5)).toNat:Int), .int .u8 ((UInt8.ofNat (x / 256 ^ 4)).toNat:Int), .int .u8 ((UInt8.ofNat (x / 256 ^ 3)).toNat:Int), .int .u8 ((UInt8.ofNat (x / 256 ^ 2)).toNat:Int), .int .u8 ((UInt8.ofNat (x / 256 ^ 1)).toNat:Int), .int .u8 ((UInt8.ofNat (x / 256 ^ 0)).toNat:Int)]:=rfl
 have e0:(x:Int)=((x / 256 ^ 0:Nat):Int):=by simp
 have d0:xaf .u64 (((x / 256 ^ 0:Nat):Int).tdiv (Int.ofNat 256))=((x / 256 ^ 1:Nat):Int):=by rw [xfc _ (by omega),Nat.div_div_eq_div_mul,← Nat.pow_succ]
 have d1:xaf .u64 (((x / 256 ^ 1:Nat):Int).tdiv (Int.ofNat 256))=((x / 256 ^ 2:Nat):Int):=by rw [xfc _ (by omega),Nat.div_div_eq_div_mul,← Nat.pow_succ]
 have d2:xaf .u64 (((x / 256 ^ 2:Nat):Int).tdiv (Int.ofNat 256))=((x / 256 ^ 3:Nat):Int):=by rw [xfc _ (by omega),Nat.div_div_eq_div_mul,← Nat.pow_succ]
 have d3:xaf .u64 (((x / 256 ^ 3:Nat):Int).tdiv (Int.ofNat 256))=((x / 256 ^ 4:Nat):Int):=by rw [xfc _ (by omega),Nat.div_div_eq_div_mul,← Nat.pow_succ]
 have d4:xaf .u64 (((x / 256 ^ 4:Nat):Int).tdiv (Int.ofNat 256))=((x / 256 ^ 5:Nat):Int):=by rw [xfc _ (by omega),Nat.div_div_eq_div_mul,← Nat.pow_succ]
 have d5:xaf .u64 (((x / 256 ^ 5:Nat):Int).tdiv (Int.ofNat 256))=((x / 256 ^ 6:Nat):Int):=by rw [xfc _ (by omega),Nat.div_div_eq_div_mul,← Nat.pow_succ]
 have d6:xaf .u64 (((x / 256 ^ 6:Nat):Int).tdiv (Int.ofNat 256))=((x / 256 ^ 7:Nat):Int):=by rw [xfc _ (by omega),Nat.div_div_eq_div_mul,← Nat.pow_succ]
 rw [h,e0]
 try simp only [d0,d1,d2,d3,d4,d5,d6]
 try simp only [xkr]
def rputR:xcf:=xcf.nb true fun us=>match us with
 | [.int .u64 x, .int .i64 (.ofNat w)]=>some ([isW w,xbr 0 x,xak x 18446744073709551616],fun n=>.slice (some (n,0)) w (some w),[.cells true 5 w (kept (ofBytes (xdf w x.toNat)))])
 | _=>none
theorem rputR_ok:xcf.Sound Try.prog tys 49 rputR:=by
 refine xcf.sound (xbd _ _) all01 (xcf.nb_ok fun us c v bs hm hc=>?_)
 split at hm
 · rename_i x w
   injection hm with hm;injection hm with e1 hm;injection hm with e2 e3;rw [xab] at e3;subst e1;subst e2;subst e3
   simp only [xah] at hc
   obtain ⟨c1,c2,c3,_⟩:=hc
   obtain ⟨x,rfl⟩:=nat_of c2
   have c3:x < 18446744073709551616:=lt_of c3
   refine ⟨fun b hb=>?_,?_⟩
   · have:b=.cells true 5 w (ofBytes (xdf w x)):=by simpa using hb
     subst this
     simp only [Blk.plainOwn,xey,Bool.and_self]
   · have fin:∀ (n:Nat) (ρ:Nat → Nat),(∀ (l j:Nat),[0][l]? = some j → ρ j=n+l) → AV.Le ((AV.slice (some (0,0)) w (some w)).ren ρ) (.slice (some (n,0)) w (some w)):=by
      intro n ρ hρ
      have:=hρ 0 0 rfl
      simp only [AV.ren,Option.map_some,this,Nat.add_zero]
      exact AV.Le.refl _
     rcases xpi c1 with rfl | rfl | rfl | rfl
     · obtain ⟨h',h,hb⟩:=rput1 x
       exact ⟨60,h',[0],_,h,by rw [hb,rcells1 x c3];rfl,xhv 0,rfl,fin⟩
     · obtain ⟨h',h,hb⟩:=rput2 x
       exact ⟨60,h',[0],_,h,by rw [hb,rcells2 x c3];rfl,xhv 0,rfl,fin⟩
     · obtain ⟨h',h,hb⟩:=rput4 x
       exact ⟨60,h',[0],_,h,by rw [hb,rcells4 x c3];rfl,xhv 0,rfl,fin⟩
     · obtain ⟨h',h,hb⟩:=rput8 x
       exact ⟨60,h',[0],_,h,by rw [hb,rcells8 x c3];rfl,xhv 0,rfl,fin⟩
 · cases hm
end Go.Proofs.Ytecncappdnhbaaa
end
end

section
noncomputable section
namespace Go.Ab
namespace M
def xorB (n:Nat) (a b:List UInt8):List UInt8:=(List.range n).map fun i=>a.getD i 0 ^^^ b.getD i 0
end M
open M
end Go.Ab
namespace Go.Proofs.Ytecncappdnhbaaa
open Go.Ab.M Go.Ab Go
structure XorS where
 a0:Bool
 l:List UInt8
 a1:Bool
 m:List UInt8
 n:Nat
 c:Nat
 cs:List AV
 i:Nat
def XorS.enc (p:XorS):HSt:=(.slice (some (0,0)) p.n (some p.c),some (.cells true 5 p.n (ofBytes ((xorB p.n p.l p.m).take p.i)++p.cs.drop p.i)),[.fsl p.a0 p.l.length (ofBytes p.l), .fsl p.a1 p.m.length (ofBytes p.m), .int .i64 (.ofNat p.n), .int .i64 (.ofNat p.i)])
def XorS.fin (p:XorS):AX × HSt:=(.exit 0, .slice (some (0,0)) p.n (some p.c),some (.cells true 5 p.n (ofBytes (xorB p.n p.l p.m))),[.fsl p.a0 p.l.length (ofBytes p.l), .fsl p.a1 p.m.length (ofBytes p.m), .int .i64 (.ofNat p.n), .int .i64 (.ofNat p.n)])
def XorS.ok (p:XorS):Prop:=p.n ≤ p.l.length∧p.n ≤ p.m.length∧p.cs.length=p.n∧AV.plainL p.cs=true∧p.i ≤ p.n∧p.n ≤ 1000000000000
end Go.Proofs.Ytecncappdnhbaaa
end
end

section
noncomputable section
namespace Go.Ab
namespace M
def zeroL (cs:List AV):Bool:=kept ((xap cs).all fun b=>b == 0)
def firstNZ (cs:List AV):Nat:=kept ((xap cs).findIdx fun b=>b != 0)
end M
open M
end Go.Ab
namespace Go.Proofs.Ytecncappdnhbaaa
open Go.Ab.M Go.Ab Go
structure IdxS where
 nl:Bool
 l:List UInt8
 z:Int
 i:Nat
def IdxS.enc (p:IdxS):HSt:=(.int .i64 (.ofNat p.i),none,[.fsl p.nl p.l.length (ofBytes p.l), .func 83 [] [], .int .i64 p.z, .int .i64 (.ofNat p.l.length)])
def idxN:xph:=⟨19,xbg Try.f101 0,8,[0,1,4,7],fun v ob us=>match v,ob,us with
 | .int .i64 (.ofNat 0),none,[.fsl nl len cs, .func 83 [] [], .int .i64 z, .int .i64 (.ofNat n)] =>
  some ([u8L cs,Nat.beq cs.length len,Nat.beq n len,!zeroL cs,Nat.ble len 1000000000000], .ret, .int .i64 (.ofNat (firstNZ cs)),none,[.fsl nl len cs, .func 83 [] [], .int .i64 (.ofNat (firstNZ cs)), .int .i64 (.ofNat n)])
 | _,_,_=>none⟩
structure LawS where
 a0:Bool
 l:List UInt8
 a1:Bool
 m:List UInt8
 z:Int
 n:Nat
 c:Nat
 i:Nat
def LawS.enc (p:LawS):HSt:=(.slice (some (0,0)) p.n (some p.c),some (.cells true 5 p.n (ofBytes (xorB p.n p.l p.m))),[.fsl p.a0 p.l.length (ofBytes p.l), .fsl p.a1 p.m.length (ofBytes p.m), .int .i64 p.z, .int .i64 (.ofNat p.n), .int .i64 (.ofNat p.i)])
def LawS.fin (p:LawS):AX × HSt:=(.exit 0, .slice (some (0,0)) p.n (some p.c),some (.cells true 5 p.n (ofBytes (xorB p.n p.l p.m))),[.fsl p.a0 p.l.length (ofBytes p.l), .fsl p.a1 p.m.length (ofBytes p.m), .int .i64 p.z, .int .i64 (.ofNat p.n), .int .i64 (.ofNat p.n)])
end Go.Proofs.Ytecncappdnhbaaa
end
end

section
noncomputable section
namespace Go.Proofs.Ytecncappdnhbaaa
open Go.Ab.M Go.Ab Go
end Go.Proofs.Ytecncappdnhbaaa
end
end

section
noncomputable section
namespace Go.Ab
open Go.RowKit
theorem xcf.Sound.of {P:Program} {ty:TypeId → Option ATy} {g:FuncId} {s s':xcf} (h:xcf.Sound P ty g s) (hn:s'.nf=s.nf)
 (hm:∀ us c' q,s'.m us=some (c',q) → xav c'=true → ∃ c,s.m us=some (c,q)∧xav c=true):xcf.Sound P ty g s':=by
 intro base w0 g' args H H' v μ w xs hsum hw hr r n
 have hsum':xff ty [(g,s')] g' args H=some (v,H'):=hsum
 unfold xff at hsum'
 replace hsum':=xai hsum';obtain ⟨s1,hf,hsum'⟩:=hsum'
 have hg:(g',s1)=(g,s'):=by simpa using xix hf
 injection hg with hg1 hg2
 subst hg1;subst hg2
 replace hsum':=xai hsum';obtain ⟨⟨c1,us⟩,hv,hsum'⟩:=hsum'
 replace hsum':=xai hsum';obtain ⟨⟨c2,q⟩,hq,hsum'⟩:=hsum'
 simp only at hsum' hq
 cases hc:xav (c1++c2) with
 | false=>rw [hc] at hsum';cases hsum'
 | true =>
  rw [hc,xcb] at hsum'
  rw [xbf] at hc
  obtain ⟨c,h1,h2⟩:=hm us c2 q hq hc.2
  refine h base w0 (g:=g') (args:=args) (H:=H) (H':=H') (v:=v) (μ:=μ) (w:=w) (xs:=xs) ?_ hw hr r n
  show xff ty [(g',s)] g' args H=some (v,H')
  unfold xff
  have e1:xjf [(g',s)] g'=some s:=by
   show cb (Nat.beq g' g') _ _=_
   simp
  rw [e1,xdl,← hn,hv,xdl]
  simp only
  rw [h1,xdl]
  simp only
  rw [xbf.2 ⟨hc.1,h2⟩,xcb]
  exact hsum'
end Go.Ab
namespace Go.Proofs.Ytecncappdnhbaaa
open Go.Ab.M Go.Ab Go
def xsd:xcf:=xcf.nb true fun us=>match us with
 | [.fsl false len cs, .int .u32 x]=>some ([Nat.beq cs.length len,u8L cs,Nat.ble len 1000000000000,xbr 0 x,xak x 4294967296],fun n=>.slice (some (n,0)) (len+4) none,[.cells true 5 (len+4) (kept (ofBytes (xap cs++xdf 4 x.toNat)))])
 | _=>none
theorem xra:xcf.Sound Try.prog tys 78 xsd:=by
 refine putRu32_ok.of rfl fun us c' q hq hc=>?_
 simp only [xsd,xcf.nb] at hq
 replace hq:=xai hq;obtain ⟨⟨c1,v,bs⟩,hm,hq⟩:=hq
 injection hq with hq;injection hq with e1 e2;subst e1;subst e2
 split at hm
 · rename_i len cs x
   injection hm with hm;injection hm with e1 hm;injection hm with e2 e3;subst e1;subst e2;subst e3
   refine ⟨_,?_,hc⟩
   simp only [xah] at hc
   obtain ⟨b,rfl⟩:=xdr.1 hc.2.1
   show (some _:Option _)=some _
   simp only [xab,xal,xcr]
 · cases hm
end Go.Proofs.Ytecncappdnhbaaa
end
end

section
noncomputable section
namespace Go.Proofs.Ytecncappdnhbaaa
open Go.Ab.M Go.Ab Go
theorem xky:xcf.Sound Try.prog tys 46 (xcf.const (.bool true)):=xcf.sound (xbd _ _) all0 (xcf.const_ok rfl (run_val (f:=100) (by kernel_rfl)))
abbrev T9a:TTab:=[(78,xsd.rt),(49,rputR.rt),(67,cloneR.rt),(46,(xcf.const (.bool true)).rt)]
theorem T9a_ok:TOK Try.prog tys T9a:=⟨xcf.rt_sound xra,xcf.rt_sound rputR_ok,xcf.rt_sound cloneR_ok,xcf.rt_sound xky,trivial⟩
def K9a:xem:={ t:=T9a }
theorem K9a_ok:KOK Try.prog tys K9a:=⟨T9a_ok,trivial,trivial,trivial,trivial⟩
abbrev C9a:=xdt tys fns K9a
theorem all9a:xcy Try.prog C9a:=xdw K9a_ok
end Go.Proofs.Ytecncappdnhbaaa
end
end

section
noncomputable section
namespace Go.Ab
namespace M
end M
open M
theorem xmt (b:List UInt8):xam b b=true:=by rw [xcm];exact beq_self_eq_true b
end Go.Ab
end
end

section
noncomputable section
namespace Go.Ab
namespace M
def encS (l:List (List UInt8)):List AV:=l.map AV.str
def isS (cs:List AV):Bool:=cs.all AV.isStr
def xce (cs:List AV):List (List UInt8):=cs.map AV.strOf
def rowD (x:Bool × List UInt8):AV:=.fsl x.1 x.2.length (ofBytes x.2)
def AV.isD (v:AV):Bool:=v.isFsl && u8L v.fslCells && Nat.beq v.fslCells.length v.fslLen
def AV.unD (v:AV):Bool × List UInt8:=(v.fslNil,xap v.fslCells)
def xcu (l:List (Bool × List UInt8)):List AV:=l.map rowD
def isD (cs:List AV):Bool:=cs.all AV.isD
def xoi (cs:List AV):List (Bool × List UInt8):=cs.map AV.unD
end M
open M
theorem xcx {cs:List AV}:isS cs=true ↔ ∃ l,cs=encS l:=by
  constructor
  · intro h
    refine ⟨xce cs,?_⟩
    unfold xce encS
    rw [List.map_map]
    conv=>lhs;rw [← List.map_id cs]
    refine List.map_congr_left fun v hv=>?_
    have:=List.all_eq_true.1 h v hv
    cases v <;> simp [AV.isStr] at this
    rfl
  · rintro ⟨l,rfl⟩
    unfold isS encS
    rw [List.all_map]
    exact List.all_eq_true.2 fun x _=>rfl
theorem xcn (l:List (List UInt8)):xce (encS l)=l:=by
  unfold xce encS
  rw [List.map_map]
  conv=>rhs;rw [← List.map_id l]
  exact List.map_congr_left fun x _=>rfl
theorem xaq (l:List (List UInt8)):(encS l).length=l.length:=by unfold encS;rw [List.length_map]
theorem xbm (l:List (List UInt8)):AV.plainL (encS l)=true:=by
  induction l with
  | nil=>rfl
  | cons x l ih=>exact ih
theorem encS_at (l:List (List UInt8)) (i:Nat) (n:List UInt8) (h:l[i]? = some n):(xbp (List.drop ((Int.ofNat i).toNat*1) (encS l)) 0).getD AV.undef=.str n:=by
  have e:(Int.ofNat i).toNat*1=i:=Nat.mul_one i
  rw [e,xdj,List.getElem?_drop]
  unfold encS
  rw [List.getElem?_map,Nat.add_zero,h];rfl
theorem isD_rowD (x:Bool × List UInt8):AV.isD (rowD x)=true:=by
  simp only [AV.isD,rowD,AV.isFsl,AV.fslCells,AV.fslLen,xbc,xad,Bool.true_and]
  exact Nat.beq_refl _
theorem xgk {cs:List AV}:isD cs=true ↔ ∃ l,cs=xcu l:=by
  constructor
  · intro h
    refine ⟨xoi cs,?_⟩
    unfold xoi xcu
    rw [List.map_map]
    conv=>lhs;rw [← List.map_id cs]
    refine List.map_congr_left fun v hv=>?_
    have:=List.all_eq_true.1 h v hv
    simp only [AV.isD,Bool.and_eq_true] at this
    obtain ⟨⟨h1,h2⟩,h3⟩:=this
    cases v <;> simp [AV.isFsl] at h1
    rename_i nl n c
    obtain ⟨b,rfl⟩:=xdr.1 h2
    have h3:=Nat.eq_of_beq_eq_true h3
    simp only [AV.fslCells,AV.fslLen,xad] at h3
    subst h3
    simp only [id,Function.comp,AV.unD,rowD,AV.fslNil,AV.fslCells,xal]
  · rintro ⟨l,rfl⟩
    unfold isD xcu
    rw [List.all_map]
    exact List.all_eq_true.2 fun x _=>isD_rowD x
theorem xcw (l:List (Bool × List UInt8)):xoi (xcu l)=l:=by
  unfold xoi xcu
  rw [List.map_map]
  conv=>rhs;rw [← List.map_id l]
  refine List.map_congr_left fun x _=>?_
  simp only [id,Function.comp,AV.unD,rowD,AV.fslNil,AV.fslCells,xal]
theorem xay (l:List (Bool × List UInt8)):(xcu l).length=l.length:=by unfold xcu;rw [List.length_map]
theorem xjq (l:List (Bool × List UInt8)) (i:Nat) (n:Bool × List UInt8) (h:l[i]? = some n):(xbp (List.drop ((Int.ofNat i).toNat*1) (xcu l)) 0).getD AV.undef=.fsl n.1 n.2.length (ofBytes n.2):=by
  have e:(Int.ofNat i).toNat*1=i:=Nat.mul_one i
  rw [e,xdj,List.getElem?_drop]
  unfold xcu
  rw [List.getElem?_map,Nat.add_zero,h];rfl
theorem xbv (l:List (Bool × List UInt8)):AV.plainL (xcu l)=true:=by
  induction l with
  | nil=>rfl
  | cons x l ih =>
    show (AV.plain (rowD x) && AV.plainL (xcu l))=true
    rw [ih,Bool.and_true]
    show AV.plainL (ofBytes x.2)=true
    exact xao _
end Go.Ab
end
end

section
noncomputable section
namespace Go.Ab
namespace M
def xdd (n:Nat):Bool:=Nat.beq n 440
def okD (p:Nat → Bool) (cs:List AV):Bool:=cs.all fun v=>p v.fslLen
def xmf (p:Nat → Bool) (cs:List AV):Nat:=cs.findIdx fun v=>!p v.fslLen
end M
open M
theorem encD_get (l:List (Bool × List UInt8)) (i:Nat) (hi:i < (xcu l).length) (h:i < l.length):(xcu l)[i]=rowD l[i]:=by
 simp [xcu]
theorem xnx {p:Nat → Bool} {ds:List (Bool × List UInt8)} (h:okD p (xcu ds)=true) {i:Nat} {x:Bool × List UInt8} (hx:ds[i]? = some x):p x.2.length=true:=by
 have:=List.all_eq_true.1 h (rowD x) (by unfold xcu;exact List.mem_map_of_mem (List.mem_of_getElem? hx))
 exact this
theorem badD_lt {p:Nat → Bool} {ds:List (Bool × List UInt8)} (h:okD p (xcu ds)=false):xmf p (xcu ds) < ds.length:=by
 have e:(xcu ds).length=ds.length:=xay ds
 rw [← e]
 unfold xmf
 refine List.findIdx_lt_length_of_exists ?_
 unfold okD at h
 have h:=List.all_eq_false.1 h
 obtain ⟨x,hx,hp⟩:=h
 exact ⟨x,hx,by simpa using hp⟩
theorem badD_before {p:Nat → Bool} {ds:List (Bool × List UInt8)} {i:Nat} (h:i < xmf p (xcu ds)) {x:Bool × List UInt8} (hx:ds[i]? = some x):p x.2.length=true:=by
 obtain ⟨hlt,hv⟩:=List.getElem?_eq_some_iff.1 hx
 have:=List.not_of_lt_findIdx h
 rw [encD_get ds i (by rw [xay];exact hlt) hlt,hv] at this
 simpa [rowD,AV.fslLen] using this
theorem badD_at {p:Nat → Bool} {ds:List (Bool × List UInt8)} (h:okD p (xcu ds)=false) {x:Bool × List UInt8} (hx:ds[xmf p (xcu ds)]? = some x):p x.2.length=false:=by
 obtain ⟨hlt,hv⟩:=List.getElem?_eq_some_iff.1 hx
 have:=@List.findIdx_getElem _ (fun v:AV=>!p v.fslLen) (xcu ds) (by show xmf p (xcu ds) < _;rw [xay];exact hlt)
 have e:=encD_get ds (xmf p (xcu ds)) (by rw [xay];exact hlt) hlt
 unfold xmf at e hv
 rw [e,hv] at this
 simpa [rowD,AV.fslLen] using this
end Go.Ab
namespace Go.Proofs.Ytecncappdnhbaaa
open Go.Ab.M Go.Ab Go
theorem ix_r (db:Bool) (dm:Nat) (dw:List AV) (m i:Nat) (z:Int) (h0:(xak (Int.ofNat i) (Int.ofNat m))=true) (h1:((Int.ofNat i).toNat.succ.ble dm)=true) (h2:(dw.length.beq (dm.mul 1))=true) (h3:(Nat.ble 1 (List.drop ((Int.ofNat i).toNat*1) dw).length)=true) (h4:(((xbp (List.drop ((Int.ofNat i).toNat*1) dw) 0).getD AV.undef).isFsl)=true) (h5:(!xae (Int.ofNat ((xbp (List.drop ((Int.ofNat i).toNat*1) dw) 0).getD AV.undef).fslLen) (Int.ofNat 440))=false) (h6:(AV.plainL dw)=true) :
 xbb Try.prog (xdi tys) 19 0 (xbj (xbg Try.f108 0)) { fr:=xar 19 ([0,1,4,7,8].zip [.fsl db dm dw,AV.func 107 [] [], .int .i64 z, .int .i64 (Int.ofNat m), .int .i64 (Int.ofNat i)]),ds:=xdp 0,H:=mkL [] } (AX.normal) ⟨xar 19 ([0,1,4,7,8].zip [.fsl db dm dw,AV.func 107 [] [], .int .i64 z, .int .i64 (Int.ofNat m), .int .i64 (xaf IntKind.i64 ((Int.ofNat i).add (Int.ofNat 1)))]),xdp 0,mkL []⟩ :=
 xbh (g:=30) (k:=108) (f:=30) (sl:=[0,1,4,7,8]) (ks:=[]) (rs:=[]) (ds:=[]) (cxZ xbd) all9a (q:=qNs [0,3,0,0,0,0,1]) (c:=(cnT::cnT::cnT::cnT::cnT::cnF::[])) (cq:=[AV.plainL dw]) (by kernel_rfl) ⟨h0,h1,h2,h3,h4,h5,trivial⟩ (xci ⟨h6,trivial⟩) (by kernel_rfl) (by kernel_rfl) (by kernel_rfl) (by kernel_rfl) (by kernel_rfl)
theorem ix_b (db:Bool) (dm:Nat) (dw:List AV) (m i:Nat) (z:Int) (h0:(xak (Int.ofNat i) (Int.ofNat m))=true) (h1:((Int.ofNat i).toNat.succ.ble dm)=true) (h2:(dw.length.beq (dm.mul 1))=true) (h3:(Nat.ble 1 (List.drop ((Int.ofNat i).toNat*1) dw).length)=true) (h4:(((xbp (List.drop ((Int.ofNat i).toNat*1) dw) 0).getD AV.undef).isFsl)=true) (h5:(!xae (Int.ofNat ((xbp (List.drop ((Int.ofNat i).toNat*1) dw) 0).getD AV.undef).fslLen) (Int.ofNat 440))=true) (h6:(AV.plainL dw)=true) :
 xbb Try.prog (xdi tys) 19 0 (xbj (xbg Try.f108 0)) { fr:=xar 19 ([0,1,4,7,8].zip [.fsl db dm dw,AV.func 107 [] [], .int .i64 z, .int .i64 (Int.ofNat m), .int .i64 (Int.ofNat i)]),ds:=xdp 0,H:=mkL [] } (AX.ret) ⟨xar 19 ([0,1,4,7,8].zip [.fsl db dm dw,AV.func 107 [] [], .int .i64 (Int.ofNat i), .int .i64 (Int.ofNat m), .int .i64 (Int.ofNat i)]),xdp 0,mkL []⟩ :=
 xbh (g:=30) (k:=108) (f:=30) (sl:=[0,1,4,7,8]) (ks:=[]) (rs:=[]) (ds:=[]) (cxZ xbd) all9a (q:=qNs [0,3,0,0,0,0,0]) (c:=(cnT::cnT::cnT::cnT::cnT::cnT::[])) (cq:=[AV.plainL dw]) (by kernel_rfl) ⟨h0,h1,h2,h3,h4,h5,trivial⟩ (xci ⟨h6,trivial⟩) (by kernel_rfl) (by kernel_rfl) (by kernel_rfl) (by kernel_rfl) (by kernel_rfl)
theorem ix_e (db:Bool) (dm:Nat) (dw:List AV) (m i:Nat) (z:Int) (h0:(xak (Int.ofNat i) (Int.ofNat m))=false) (h1:(AV.plainL dw)=true) :
 xbb Try.prog (xdi tys) 19 0 (xbj (xbg Try.f108 0)) { fr:=xar 19 ([0,1,4,7,8].zip [.fsl db dm dw,AV.func 107 [] [], .int .i64 z, .int .i64 (Int.ofNat m), .int .i64 (Int.ofNat i)]),ds:=xdp 0,H:=mkL [] } (AX.exit 0) ⟨xar 19 ([0,1,4,7,8].zip [.fsl db dm dw,AV.func 107 [] [], .int .i64 z, .int .i64 (Int.ofNat m), .int .i64 (Int.ofNat i)]),xdp 0,mkL []⟩ :=
 xbh (g:=30) (k:=108) (f:=30) (sl:=[0,1,4,7,8]) (ks:=[]) (rs:=[]) (ds:=[]) (cxZ xbd) all9a (q:=qNs [1]) (c:=(cnF::[])) (cq:=[AV.plainL dw]) (by kernel_rfl) ⟨h0,trivial⟩ (xci ⟨h1,trivial⟩) (by kernel_rfl) (by kernel_rfl) (by kernel_rfl) (by kernel_rfl) (by kernel_rfl)
def ixT:List AV × List Blk → Bool:=fun x=>match x.1 with
 | [.fsl _ _ dw,_,_,_,_]=>okD xdd dw
 | _=>false
def ix0:List AV × List Blk → Option (List Bool × AX × List AV × List Blk):=fun x=>match x with
 | ([.fsl db dm dw, .func 107 [] [], .int .i64 z, .int .i64 (.ofNat m), .int .i64 (.ofNat i)],[]) =>
  some ([isD dw,Nat.beq dw.length dm,Nat.beq m dm,Nat.beq i 0,Nat.ble dm 1099511627776,okD xdd dw], .normal,[.fsl db dm dw, .func 107 [] [], .int .i64 z, .int .i64 (Int.ofNat dm), .int .i64 (Int.ofNat dm)],[])
 | _=>none
def ix1:List AV × List Blk → Option (List Bool × AX × List AV × List Blk):=fun x=>match x with
 | ([.fsl db dm dw, .func 107 [] [], .int .i64 z, .int .i64 (.ofNat m), .int .i64 (.ofNat i)],[]) =>
  some ([isD dw,Nat.beq dw.length dm,Nat.beq m dm,Nat.beq i 0,Nat.ble dm 1099511627776,!okD xdd dw], .ret,[.fsl db dm dw, .func 107 [] [], .int .i64 (Int.ofNat (xmf xdd dw)), .int .i64 (Int.ofNat dm), .int .i64 (Int.ofNat (xmf xdd dw))],[])
 | _=>none
def ixL:ZLT:=⟨19,xbg Try.f108 0,[0,1,4,7,8],0,[], .node ixT (.leaf ix0) (.leaf ix1)⟩
theorem ixL_ok:ixL.OK Try.prog (xdi tys) (xbz tys) 0:=by
 refine ⟨?_,?_⟩
 · intro vs bs conds X vs' bs' h hc hin
   have h:ix0 (vs,bs)=some (conds,X,vs',bs'):=h
   unfold ix0 at h
   split at h
   · rename_i db dm dw z m i he
     injection he with he1 he2
     subst he1;subst he2
     injection h with h;injection h with e1 h;injection h with e2 h;injection h with e3 e4
     subst e1;subst e2;subst e3;subst e4
     simp only [xah] at hc
     obtain ⟨c1,c2,c3,c4,c5,c6,_⟩:=hc
     have q1:True:=trivial
     have q2:True:=trivial
     obtain ⟨ds,rfl⟩:=xgk.1 c1
     have c2:=xaj c2
     have c3:=xaj c3
     have c4:=xaj c4
     rw [xay] at c2
     subst c3;subst c4;subst c2
     have c5:=Nat.le_of_ble_eq_true c5
     have key:=xbb.loop (P:=Try.prog) (cx:=xdi tys) (nn:=19) (n0:=0) (b:=xbj (xbg Try.f108 0)) (fun q:{i:Nat // i ≤ ds.length}=>(ixL.at ix0).st ([.fsl db ds.length (xcu ds), .func 107 [] [], .int .i64 z, .int .i64 (Int.ofNat ds.length), .int .i64 (Int.ofNat q.1)],[]))
      (fun q=>(.exit 0,(ixL.at ix0).st ([.fsl db ds.length (xcu ds), .func 107 [] [], .int .i64 z, .int .i64 (Int.ofNat ds.length), .int .i64 (Int.ofNat ds.length)],[]))) (fun q=>ds.length - q.1) (fun q=>by
      obtain ⟨i,hi⟩:=q
      simp only
      by_cases hlt:i < ds.length
      · refine .inl ⟨⟨i+1,hlt⟩,?_,trivial,by simp only;omega⟩
        obtain ⟨x,hx⟩:∃ x,ds[i]? = some x:=⟨_,List.getElem?_eq_getElem hlt⟩
        have hg:=xnx c6 hx
        have e1:(xbp (List.drop ((Int.ofNat i).toNat*1) (xcu ds)) 0).getD AV.undef=.fsl x.1 x.2.length (ofBytes x.2):=xjq ds i x hx
        have k0:xak (Int.ofNat i) (Int.ofNat ds.length)=true:=by rw [xat];exact decide_eq_true (by show ((i:Nat):Int) < (ds.length:Int);omega)
        have hw:xaf .i64 ((Int.ofNat i).add (Int.ofNat 1))=Int.ofNat (i+1):=xbe .i64 (i+1) (by show _ < 9223372036854775808;omega)
        have lc:(!xae (Int.ofNat x.2.length) (Int.ofNat 440))=false:=by rw [Nat.eq_of_beq_eq_true hg];rfl
        have key:=ix_r db ds.length (xcu ds) ds.length i z
        iterate 7
         replace key:=key (by
          (try simp only [e1,k0,AV.fslLen,AV.isFsl,lc])
          first
           | done
           | with_reducible rfl
           | with_reducible exact xbv _
           | with_reducible exact q1
           | with_reducible exact q2
           | (simp [xbq,xay];omega)
           | (simp [xbn,xay];done)
           | (simp [xbq,xay];done))
        try simp only [hw] at key
        exact key
      · have hi:i=ds.length:=by omega
        subst hi
        refine .inr ⟨?_,by simp⟩
        have k0:xak (Int.ofNat ds.length) (Int.ofNat ds.length)=false:=by rw [xat];exact decide_eq_false (by show ¬ (ds.length:Int) < (ds.length:Int);omega)
        exact ix_e db ds.length (xcu ds) ds.length ds.length z k0 (xbv _)) ⟨0,Nat.zero_le _⟩
     exact xbb.block 0 key
   · cases h
 · intro vs bs conds X vs' bs' h hc hin
   have h:ix1 (vs,bs)=some (conds,X,vs',bs'):=h
   unfold ix1 at h
   split at h
   · rename_i db dm dw z m i he
     injection he with he1 he2
     subst he1;subst he2
     injection h with h;injection h with e1 h;injection h with e2 h;injection h with e3 e4
     subst e1;subst e2;subst e3;subst e4
     simp only [xah] at hc
     obtain ⟨c1,c2,c3,c4,c5,c6,_⟩:=hc
     have q1:True:=trivial
     have q2:True:=trivial
     obtain ⟨ds,rfl⟩:=xgk.1 c1
     have c2:=xaj c2
     have c3:=xaj c3
     have c4:=xaj c4
     rw [xay] at c2
     subst c3;subst c4;subst c2
     have c5:=Nat.le_of_ble_eq_true c5
     have c6:okD xdd (xcu ds)=false:=by simpa using c6
     have hk:=badD_lt c6
     have key:=xbb.loop (P:=Try.prog) (cx:=xdi tys) (nn:=19) (n0:=0) (b:=xbj (xbg Try.f108 0)) (fun q:{i:Nat // i ≤ xmf xdd (xcu ds)}=>(ixL.at ix1).st ([.fsl db ds.length (xcu ds), .func 107 [] [], .int .i64 z, .int .i64 (Int.ofNat ds.length), .int .i64 (Int.ofNat q.1)],[]))
      (fun q=>(.ret,(ixL.at ix1).st ([.fsl db ds.length (xcu ds), .func 107 [] [], .int .i64 (Int.ofNat (xmf xdd (xcu ds))), .int .i64 (Int.ofNat ds.length), .int .i64 (Int.ofNat (xmf xdd (xcu ds)))],[]))) (fun q=>ds.length - q.1) (fun q=>by
      obtain ⟨i,hi⟩:=q
      simp only
      by_cases hlt:i < xmf xdd (xcu ds)
      · refine .inl ⟨⟨i+1,hlt⟩,?_,trivial,by simp only;omega⟩
        obtain ⟨x,hx⟩:∃ x,ds[i]? = some x:=⟨_,List.getElem?_eq_getElem (by omega)⟩
        have hg:=badD_before hlt hx
        have e1:(xbp (List.drop ((Int.ofNat i).toNat*1) (xcu ds)) 0).getD AV.undef=.fsl x.1 x.2.length (ofBytes x.2):=xjq ds i x hx
        have k0:xak (Int.ofNat i) (Int.ofNat ds.length)=true:=by rw [xat];exact decide_eq_true (by show ((i:Nat):Int) < (ds.length:Int);omega)
        have hw:xaf .i64 ((Int.ofNat i).add (Int.ofNat 1))=Int.ofNat (i+1):=xbe .i64 (i+1) (by show _ < 9223372036854775808;omega)
        have lc:(!xae (Int.ofNat x.2.length) (Int.ofNat 440))=false:=by rw [Nat.eq_of_beq_eq_true hg];rfl
        have key:=ix_r db ds.length (xcu ds) ds.length i z
        iterate 7
         replace key:=key (by
          (try simp only [e1,k0,AV.fslLen,AV.isFsl,lc])
          first
           | done
           | with_reducible rfl
           | with_reducible exact xbv _
           | with_reducible exact q1
           | with_reducible exact q2
           | (simp [xbq,xay];omega)
           | (simp [xbn,xay];done)
           | (simp [xbq,xay];done))
        try simp only [hw] at key
        exact key
      · have hi:i=xmf xdd (xcu ds):=by omega
        refine .inr ⟨?_,by simp⟩
        obtain ⟨x,hx⟩:∃ x,ds[i]? = some x:=⟨_,List.getElem?_eq_getElem (by omega)⟩
        have hg:xdd x.2.length=false:=badD_at c6 (by rw [← hi];exact hx)
        rw [← hi]
        have e1:(xbp (List.drop ((Int.ofNat i).toNat*1) (xcu ds)) 0).getD AV.undef=.fsl x.1 x.2.length (ofBytes x.2):=xjq ds i x hx
        have k0:xak (Int.ofNat i) (Int.ofNat ds.length)=true:=by rw [xat];exact decide_eq_true (by show ((i:Nat):Int) < (ds.length:Int);omega)
        have hw:xaf .i64 ((Int.ofNat i).add (Int.ofNat 1))=Int.ofNat (i+1):=xbe .i64 (i+1) (by show _ < 9223372036854775808;omega)
        have lc:(!xae (Int.ofNat x.2.length) (Int.ofNat 440))=true:=by have h9:x.2.length ≠ 440:=fun h=>(by rw [h] at hg;cases hg);rw [xaz,beq_eq_false_iff_ne.2 (fun h=>h9 (by injection h))];rfl
        have key:=ix_b db ds.length (xcu ds) ds.length i z
        iterate 7
         replace key:=key (by
          (try simp only [e1,k0,AV.fslLen,AV.isFsl,lc])
          first
           | done
           | with_reducible rfl
           | with_reducible exact xbv _
           | with_reducible exact q1
           | with_reducible exact q2
           | (simp [xbq,xay];omega)
           | (simp [xbn,xay];done)
           | (simp [xbq,xay];done))
        try simp only [hw] at key
        exact key) ⟨0,Nat.zero_le _⟩
     exact xbb.block 0 key
   · cases h
end Go.Proofs.Ytecncappdnhbaaa
end
end

section
noncomputable section
namespace Go.Proofs.Ytecncappdnhbaaa
open Go.Ab.M Go.Ab Go
def K10a:xem:={ t:=T9a,l:=[((108,0),ixL)] }
theorem K10a_ok:KOK Try.prog tys K10a:=⟨T9a_ok,trivial,trivial,trivial,⟨ixL_ok,trivial⟩⟩
abbrev C10a:=xdt tys fns K10a
theorem all10a:xcy Try.prog C10a:=xdw K10a_ok
end Go.Proofs.Ytecncappdnhbaaa
end
end

section
noncomputable section
namespace Go.Ab.M
def xau (op sub pl fi ct:Int) (ln dn:Nat):Prop :=
 1 ≤ op∧op < 8∧(op=1 → 1 ≤ ct∧ct ≤ 16∧ln=0)∧(op ≠ 1 → ct=0∧fi=0)∧((op=2 ∨ op=3) → 0 < ln)∧(0 < ln → op=2 ∨ op=3)∧ln ≤ 16∧(op=2 → dn=ln)∧(op ≠ 2 → dn=0)∧sub < 3∧(0 < sub → 5 ≤ op)∧(0 < pl → op=7∧sub=0)
instance (op sub pl fi ct:Int) (ln dn:Nat):Decidable (xau op sub pl fi ct ln dn):=by unfold xau;infer_instance
def xbi (op sub pl fi ct:Int) (ln dn:Nat) (dv:List AV):Bool:=decide (xau op sub pl fi ct ln dn) && okD xdd dv
end Go.Ab.M
namespace Go.Proofs.Ytecncappdnhbaaa
open Go.Ab.M Go.Ab Go
theorem xpm {op sub pl fi ct:Int} {ln dn:Nat} {dv:List AV} (h:¬ xau op sub pl fi ct ln dn):xbi op sub pl fi ct ln dn dv=false:=by
 unfold xbi;rw [decide_eq_false h];rfl
theorem rightB_so {op sub pl fi ct:Int} {ln dn:Nat} {dv:List AV} (h:xau op sub pl fi ct ln dn):xbi op sub pl fi ct ln dn dv=okD xdd dv:=by
 unfold xbi;rw [decide_eq_true h];exact Bool.true_and _
abbrev rE (op sub pl fi ct:Int) (la:Bool) (ln:Nat) (lv:List AV) (da:Bool) (dn:Nat) (dv:List AV) (b:Bool):Prop:=∃ h',xbl C10a 60 (Tgt.fn 95) [.agg [.int .u8 op, .int .u8 sub, .int .u8 pl, .int .u32 fi, .int .u8 ct, .fsl la ln lv, .fsl da dn dv]] H0=some (AV.bool b,h')∧[].map h'.get=[]
abbrev rG (op sub pl fi ct:Int) (la:Bool) (ln:Nat) (lv:List AV) (da:Bool) (dn:Nat) (dv:List AV):Prop:=∃ h',xbl C10a 60 (Tgt.fn 95) [.agg [.int .u8 op, .int .u8 sub, .int .u8 pl, .int .u32 fi, .int .u8 ct, .fsl la ln lv, .fsl da dn dv]] H0=some (AV.bool (xbi op sub pl fi ct ln dn dv),h')
theorem SL:(∀ a b:Int,(xae a b=true)=(a=b))∧(∀ a b:Int,(xae a b=false)=(a ≠ b))∧(∀ a b:Int,(xak a b=true)=(a < b))∧(∀ a b:Int,(xak a b=false)=¬ (a < b))∧(∀ a b:Int,(xbr a b=true)=(a ≤ b))∧(∀ a b:Int,(xbr a b=false)=¬ (a ≤ b))∧(∀ b:Bool,((!b)=true)=(b=false))∧(∀ b:Bool,((!b)=false)=(b=true))∧(∀ b:Bool,(true == b)=b)∧(∀ b:Bool,(false == b)=!b)∧(∀ k n,(AV.int k n).intOf=n)∧(∀ n:Nat,Int.ofNat n=(n:Int)):=by
 refine ⟨fun a b=>?_,fun a b=>?_,fun a b=>?_,fun a b=>?_,fun a b=>?_,fun a b=>?_,fun b=>?_,fun b=>?_,fun b=>?_,fun b=>?_,fun _ _=>rfl,fun _=>rfl⟩
 · rw [xaz,beq_iff_eq]
 · rw [xaz,beq_eq_false_iff_ne]
 · rw [xat,decide_eq_true_eq]
 · rw [xat,decide_eq_false_iff_not]
 · rw [xax,decide_eq_true_eq]
 · rw [xax,decide_eq_false_iff_not]
 all_goals cases b <;> simp
section
variable {op sub pl fi ct:Int} {la:Bool} {ln:Nat} {lv:List AV} {da:Bool} {dn:Nat} {dv:List AV}
theorem rNo (h:rE op sub pl fi ct la ln lv da dn dv false) (k:¬ xau op sub pl fi ct ln dn):rG op sub pl fi ct la ln lv da dn dv:=by
 obtain ⟨h',h,_⟩:=h;unfold rG;rw [xpm k];exact ⟨h',h⟩
theorem rSo {b:Bool} (h:rE op sub pl fi ct la ln lv da dn dv b) (k:xau op sub pl fi ct ln dn) (o:okD xdd dv=b):rG op sub pl fi ct la ln lv da dn dv:=by
 obtain ⟨h',h,_⟩:=h;unfold rG;rw [rightB_so k,o];exact ⟨h',h⟩
end
section
variable {sub pl fi ct:Int} {la:Bool} {ln:Nat} {lv:List AV} {da:Bool} {dn:Nat} {dv:List AV}
theorem r1_f (h0:(xbr (Int.ofNat 1) (xaf IntKind.i64 ct))=false) :
 rE (Int.ofNat 1) sub pl fi ct la ln lv da dn dv (false) :=
 xaa (q:=qNs [26,1,1,1,16]) (c:=(cnF::cnF::cnF::[])) (by kernel_rfl) ⟨h0,h0,h0,trivial⟩
theorem r1_tt (h0:(xbr (Int.ofNat 1) (xaf IntKind.i64 ct))=true) (h1:(!xbr (xaf IntKind.i64 ct) (Int.ofNat 16))=true) :
 rE (Int.ofNat 1) sub pl fi ct la ln lv da dn dv (false) :=
 xaa (q:=qNs [26,0,0,0,4,0,0,3,0,10]) (c:=(cnT::cnT::cnT::cnT::cnT::cnT::[])) (by kernel_rfl) ⟨h0,h0,h0,h1,h1,h1,trivial⟩
theorem r1_tft (h0:(xbr (Int.ofNat 1) (xaf IntKind.i64 ct))=true) (h1:(!xbr (xaf IntKind.i64 ct) (Int.ofNat 16))=false) (h2:(xak (Int.ofNat 0) (Int.ofNat ln))=true) :
 rE (Int.ofNat 1) sub pl fi ct la ln lv da dn dv (false) :=
 xaa (q:=qNs [26,0,0,0,4,1,1,3,1,3,0,0,0,0,0,0,3]) (c:=(cnT::cnT::cnT::cnF::cnF::cnF::cnT::cnT::cnT::cnT::cnT::cnT::[])) (by kernel_rfl) ⟨h0,h0,h0,h1,h1,h1,h2,h2,h2,h2,h2,h2,trivial⟩
theorem r1_tfft (h0:(xbr (Int.ofNat 1) (xaf IntKind.i64 ct))=true) (h1:(!xbr (xaf IntKind.i64 ct) (Int.ofNat 16))=false) (h2:(xak (Int.ofNat 0) (Int.ofNat ln))=false) (h3:(!false == xak (Int.ofNat 0) (Int.ofNat ln))=true) :
 rE (Int.ofNat 1) sub pl fi ct la ln lv da dn dv (false) :=
 xaa (q:=qNs [26,0,0,0,4,1,1,3,1,3,1,1,5,1,1,7,1,3,1,13,0,0,0,3]) (c:=(cnT::cnT::cnT::cnF::cnF::cnF::cnF::cnF::cnF::cnF::cnF::cnF::cnT::cnT::cnT::[])) (by kernel_rfl) ⟨h0,h0,h0,h1,h1,h1,h2,h2,h2,h2,h2,h2,h3,h3,h3,trivial⟩
theorem r1_tffft (h0:(xbr (Int.ofNat 1) (xaf IntKind.i64 ct))=true) (h1:(!xbr (xaf IntKind.i64 ct) (Int.ofNat 16))=false) (h2:(xak (Int.ofNat 0) (Int.ofNat ln))=false) (h3:(!false == xak (Int.ofNat 0) (Int.ofNat ln))=false) (h4:(xak (Int.ofNat 16) (Int.ofNat ln))=true) :
 rE (Int.ofNat 1) sub pl fi ct la ln lv da dn dv (false) :=
 xaa (q:=qNs [26,0,0,0,4,1,1,3,1,3,1,1,5,1,1,7,1,3,1,13,1,1,1,0]) (c:=(cnT::cnT::cnT::cnF::cnF::cnF::cnF::cnF::cnF::cnF::cnF::cnF::cnF::cnF::cnF::cnT::[])) (by kernel_rfl) ⟨h0,h0,h0,h1,h1,h1,h2,h2,h2,h2,h2,h2,h3,h3,h3,h4,trivial⟩
theorem r1_tfffft (h0:(xbr (Int.ofNat 1) (xaf IntKind.i64 ct))=true) (h1:(!xbr (xaf IntKind.i64 ct) (Int.ofNat 16))=false) (h2:(xak (Int.ofNat 0) (Int.ofNat ln))=false) (h3:(!false == xak (Int.ofNat 0) (Int.ofNat ln))=false) (h4:(xak (Int.ofNat 16) (Int.ofNat ln))=false) (h5:(xak (Int.ofNat 0) (Int.ofNat dn))=true) :
 rE (Int.ofNat 1) sub pl fi ct la ln lv da dn dv (false) :=
 xaa (q:=qNs [26,0,0,0,4,1,1,3,1,3,1,1,5,1,1,7,1,3,1,13,1,1,1,1,28,0]) (c:=(cnT::cnT::cnT::cnF::cnF::cnF::cnF::cnF::cnF::cnF::cnF::cnF::cnF::cnF::cnF::cnF::cnT::[])) (by kernel_rfl) ⟨h0,h0,h0,h1,h1,h1,h2,h2,h2,h2,h2,h2,h3,h3,h3,h4,h5,trivial⟩
theorem r1_tffffft (h0:(xbr (Int.ofNat 1) (xaf IntKind.i64 ct))=true) (h1:(!xbr (xaf IntKind.i64 ct) (Int.ofNat 16))=false) (h2:(xak (Int.ofNat 0) (Int.ofNat ln))=false) (h3:(!false == xak (Int.ofNat 0) (Int.ofNat ln))=false) (h4:(xak (Int.ofNat 16) (Int.ofNat ln))=false) (h5:(xak (Int.ofNat 0) (Int.ofNat dn))=false) (h6:(xbr (Int.ofNat 3) sub)=true) :
 rE (Int.ofNat 1) sub pl fi ct la ln lv da dn dv (false) :=
 xaa (q:=qNs [26,0,0,0,4,1,1,3,1,3,1,1,5,1,1,7,1,3,1,13,1,1,1,1,28,1,5,0,0,0,0,0,0,3]) (c:=(cnT::cnT::cnT::cnF::cnF::cnF::cnF::cnF::cnF::cnF::cnF::cnF::cnF::cnF::cnF::cnF::cnF::cnT::cnT::cnT::cnT::cnT::cnT::[])) (by kernel_rfl) ⟨h0,h0,h0,h1,h1,h1,h2,h2,h2,h2,h2,h2,h3,h3,h3,h4,h5,h6,h6,h6,h6,h6,h6,trivial⟩
theorem r1_tfffffft (h0:(xbr (Int.ofNat 1) (xaf IntKind.i64 ct))=true) (h1:(!xbr (xaf IntKind.i64 ct) (Int.ofNat 16))=false) (h2:(xak (Int.ofNat 0) (Int.ofNat ln))=false) (h3:(!false == xak (Int.ofNat 0) (Int.ofNat ln))=false) (h4:(xak (Int.ofNat 16) (Int.ofNat ln))=false) (h5:(xak (Int.ofNat 0) (Int.ofNat dn))=false) (h6:(xbr (Int.ofNat 3) sub)=false) (h7:(xak (Int.ofNat 0) sub)=true) :
 rE (Int.ofNat 1) sub pl fi ct la ln lv da dn dv (false) :=
 xaa (q:=qNs [26,0,0,0,4,1,1,3,1,3,1,1,5,1,1,7,1,3,1,13,1,1,1,1,28,1,5,1,1,5,1,1,0,17,0,9,0,1,0,1,3]) (c:=(cnT::cnT::cnT::cnF::cnF::cnF::cnF::cnF::cnF::cnF::cnF::cnF::cnF::cnF::cnF::cnF::cnF::cnF::cnF::cnF::cnF::cnT::cnT::cnT::cnF::cnT::cnF::[])) (by kernel_rfl) ⟨h0,h0,h0,h1,h1,h1,h2,h2,h2,h2,h2,h2,h3,h3,h3,h4,h5,h6,h6,h6,h6,h7,h7,h7,h6,h7,h6,trivial⟩
theorem r1_tffffffft (h0:(xbr (Int.ofNat 1) (xaf IntKind.i64 ct))=true) (h1:(!xbr (xaf IntKind.i64 ct) (Int.ofNat 16))=false) (h2:(xak (Int.ofNat 0) (Int.ofNat ln))=false) (h3:(!false == xak (Int.ofNat 0) (Int.ofNat ln))=false) (h4:(xak (Int.ofNat 16) (Int.ofNat ln))=false) (h5:(xak (Int.ofNat 0) (Int.ofNat dn))=false) (h6:(xbr (Int.ofNat 3) sub)=false) (h7:(xak (Int.ofNat 0) sub)=false) (h8:(xak (Int.ofNat 0) pl)=true) :
 rE (Int.ofNat 1) sub pl fi ct la ln lv da dn dv (false) :=
 xaa (q:=qNs [26,0,0,0,4,1,1,3,1,3,1,1,5,1,1,7,1,3,1,13,1,1,1,1,28,1,5,1,1,5,1,1,1,1,1,1,1,1,6,0,0,5,0,0,5,0,3,0,3]) (c:=(cnT::cnT::cnT::cnF::cnF::cnF::cnF::cnF::cnF::cnF::cnF::cnF::cnF::cnF::cnF::cnF::cnF::cnF::cnF::cnF::cnF::cnF::cnF::cnF::cnF::cnF::cnF::cnT::cnT::cnT::cnT::cnT::cnT::[])) (by kernel_rfl) ⟨h0,h0,h0,h1,h1,h1,h2,h2,h2,h2,h2,h2,h3,h3,h3,h4,h5,h6,h6,h6,h6,h7,h7,h7,h6,h7,h6,h8,h8,h8,h8,h8,h8,trivial⟩
theorem xsn (h0:(xbr (Int.ofNat 1) (xaf IntKind.i64 ct))=true) (h1:(!xbr (xaf IntKind.i64 ct) (Int.ofNat 16))=false) (h2:(xak (Int.ofNat 0) (Int.ofNat ln))=false) (h3:(!false == xak (Int.ofNat 0) (Int.ofNat ln))=false) (h4:(xak (Int.ofNat 16) (Int.ofNat ln))=false) (h5:(xak (Int.ofNat 0) (Int.ofNat dn))=false) (h6:(xbr (Int.ofNat 3) sub)=false) (h7:(xak (Int.ofNat 0) sub)=false) (h8:(xak (Int.ofNat 0) pl)=false) (h9:(okD xdd dv)=true) (h10:(AV.plainL dv)=true) (h11:(isD dv)=true) (h12:(dv.length.beq dn)=true) (h13:(dn.beq dn)=true) (h14:(dn.ble 1099511627776)=true) :
 rE (Int.ofNat 1) sub pl fi ct la ln lv da dn dv (true) :=
 xaa (q:=qNs [26,0,0,0,4,1,1,3,1,3,1,1,5,1,1,7,1,3,1,13,1,1,1,1,28,1,5,1,1,5,1,1,1,1,1,1,1,1,6,1,1,1,1,1,1,6,0,4,0,0,0,0,0,3,0,0,3,0]) (c:=(cnT::cnT::cnT::cnF::cnF::cnF::cnF::cnF::cnF::cnF::cnF::cnF::cnF::cnF::cnF::cnF::cnF::cnF::cnF::cnF::cnF::cnF::cnF::cnF::cnF::cnF::cnF::cnF::cnF::cnF::cnF::cnF::cnF::Cnd.code (ZLT.lsumS (xbz tys) ((108,0),ixL).snd).fst (ZLT.lsumS (xbz tys) ((108,0),ixL).snd).fst::cnT::cnT::cnT::cnT::cnT::cnT::cnT::cnT::cnT::[])) (by kernel_rfl) ⟨h0,h0,h0,h1,h1,h1,h2,h2,h2,h2,h2,h2,h3,h3,h3,h4,h5,h6,h6,h6,h6,h7,h7,h7,h6,h7,h6,h8,h8,h8,h8,h8,h8,rfl,h9,h10,h10,h11,h12,h13,h14,h9,h10,trivial⟩
theorem xsf (h0:(xbr (Int.ofNat 1) (xaf IntKind.i64 ct))=true) (h1:(!xbr (xaf IntKind.i64 ct) (Int.ofNat 16))=false) (h2:(xak (Int.ofNat 0) (Int.ofNat ln))=false) (h3:(!false == xak (Int.ofNat 0) (Int.ofNat ln))=false) (h4:(xak (Int.ofNat 16) (Int.ofNat ln))=false) (h5:(xak (Int.ofNat 0) (Int.ofNat dn))=false) (h6:(xbr (Int.ofNat 3) sub)=false) (h7:(xak (Int.ofNat 0) sub)=false) (h8:(xak (Int.ofNat 0) pl)=false) (h9:(okD xdd dv)=false) (h10:(AV.plainL dv)=true) (h11:(isD dv)=true) (h12:(dv.length.beq dn)=true) (h13:(dn.beq dn)=true) (h14:(dn.ble 1099511627776)=true) (h15:(!okD xdd dv)=true) :
 rE (Int.ofNat 1) sub pl fi ct la ln lv da dn dv (!xbr (Int.ofNat 0) (Int.ofNat (xmf xdd dv))) :=
 xaa (q:=qNs [26,0,0,0,4,1,1,3,1,3,1,1,5,1,1,7,1,3,1,13,1,1,1,1,28,1,5,1,1,5,1,1,1,1,1,1,1,1,6,1,1,1,1,1,1,6,1,4,0,0,0,0,0,3,0,0,3,0]) (c:=(cnT::cnT::cnT::cnF::cnF::cnF::cnF::cnF::cnF::cnF::cnF::cnF::cnF::cnF::cnF::cnF::cnF::cnF::cnF::cnF::cnF::cnF::cnF::cnF::cnF::cnF::cnF::cnF::cnF::cnF::cnF::cnF::cnF::Cnd.code (ZLT.lsumS (xbz tys) ((108,0),ixL).snd).fst (ZLT.lsumS (xbz tys) ((108,0),ixL).snd).fst::cnF::cnT::cnT::cnT::cnT::cnT::cnT::cnT::cnT::[])) (by kernel_rfl) ⟨h0,h0,h0,h1,h1,h1,h2,h2,h2,h2,h2,h2,h3,h3,h3,h4,h5,h6,h6,h6,h6,h7,h7,h7,h6,h7,h6,h8,h8,h8,h8,h8,h8,rfl,h9,h10,h10,h11,h12,h13,h14,h15,h10,trivial⟩
theorem r2_t (h0:(!xae ct (Int.ofNat 0))=true) :
 rE (Int.ofNat 2) sub pl fi ct la ln lv da dn dv (false) :=
 xaa (q:=qNs [41,0,0,0,3,0,6]) (c:=(cnT::cnT::cnT::cnT::[])) (by kernel_rfl) ⟨h0,h0,h0,h0,trivial⟩
theorem r2_ft (h0:(!xae ct (Int.ofNat 0))=false) (h1:(!xae fi (Int.ofNat 0))=true) :
 rE (Int.ofNat 2) sub pl fi ct la ln lv da dn dv (false) :=
 xaa (q:=qNs [41,1,1,5,1,3,1,5,0]) (c:=(cnF::cnF::cnF::cnF::cnT::[])) (by kernel_rfl) ⟨h0,h0,h0,h0,h1,trivial⟩
theorem r2_fft (h0:(!xae ct (Int.ofNat 0))=false) (h1:(!xae fi (Int.ofNat 0))=false) (h2:(!true == xak (Int.ofNat 0) (Int.ofNat ln))=true) :
 rE (Int.ofNat 2) sub pl fi ct la ln lv da dn dv (false) :=
 xaa (q:=qNs [41,1,1,5,1,3,1,5,1,9,0,0,0,3]) (c:=(cnF::cnF::cnF::cnF::cnF::cnT::cnT::cnT::[])) (by kernel_rfl) ⟨h0,h0,h0,h0,h1,h2,h2,h2,trivial⟩
theorem r2_ffft (h0:(!xae ct (Int.ofNat 0))=false) (h1:(!xae fi (Int.ofNat 0))=false) (h2:(!true == xak (Int.ofNat 0) (Int.ofNat ln))=false) (h3:(xak (Int.ofNat 16) (Int.ofNat ln))=true) :
 rE (Int.ofNat 2) sub pl fi ct la ln lv da dn dv (false) :=
 xaa (q:=qNs [41,1,1,5,1,3,1,5,1,9,1,1,1,0]) (c:=(cnF::cnF::cnF::cnF::cnF::cnF::cnF::cnF::cnT::[])) (by kernel_rfl) ⟨h0,h0,h0,h0,h1,h2,h2,h2,h3,trivial⟩
theorem r2_fffft (h0:(!xae ct (Int.ofNat 0))=false) (h1:(!xae fi (Int.ofNat 0))=false) (h2:(!true == xak (Int.ofNat 0) (Int.ofNat ln))=false) (h3:(xak (Int.ofNat 16) (Int.ofNat ln))=false) (h4:(!xae (Int.ofNat dn) (Int.ofNat ln))=true) :
 rE (Int.ofNat 2) sub pl fi ct la ln lv da dn dv (false) :=
 xaa (q:=qNs [41,1,1,5,1,3,1,5,1,9,1,1,1,1,14,0,0,0,0,0,0,3]) (c:=(cnF::cnF::cnF::cnF::cnF::cnF::cnF::cnF::cnF::cnT::cnT::cnT::cnT::cnT::cnT::[])) (by kernel_rfl) ⟨h0,h0,h0,h0,h1,h2,h2,h2,h3,h4,h4,h4,h4,h4,h4,trivial⟩
theorem r2_ffffft (h0:(!xae ct (Int.ofNat 0))=false) (h1:(!xae fi (Int.ofNat 0))=false) (h2:(!true == xak (Int.ofNat 0) (Int.ofNat ln))=false) (h3:(xak (Int.ofNat 16) (Int.ofNat ln))=false) (h4:(!xae (Int.ofNat dn) (Int.ofNat ln))=false) (h5:(xbr (Int.ofNat 3) sub)=true) :
 rE (Int.ofNat 2) sub pl fi ct la ln lv da dn dv (false) :=
 xaa (q:=qNs [41,1,1,5,1,3,1,5,1,9,1,1,1,1,14,1,1,5,1,1,6,1,3,1,6,0,0,0,0,0,0,3]) (c:=(cnF::cnF::cnF::cnF::cnF::cnF::cnF::cnF::cnF::cnF::cnF::cnF::cnF::cnF::cnF::cnT::cnT::cnT::cnT::cnT::cnT::[])) (by kernel_rfl) ⟨h0,h0,h0,h0,h1,h2,h2,h2,h3,h4,h4,h4,h4,h4,h4,h5,h5,h5,h5,h5,h5,trivial⟩
theorem r2_fffffft (h0:(!xae ct (Int.ofNat 0))=false) (h1:(!xae fi (Int.ofNat 0))=false) (h2:(!true == xak (Int.ofNat 0) (Int.ofNat ln))=false) (h3:(xak (Int.ofNat 16) (Int.ofNat ln))=false) (h4:(!xae (Int.ofNat dn) (Int.ofNat ln))=false) (h5:(xbr (Int.ofNat 3) sub)=false) (h6:(xak (Int.ofNat 0) sub)=true) :
 rE (Int.ofNat 2) sub pl fi ct la ln lv da dn dv (false) :=
 xaa (q:=qNs [41,1,1,5,1,3,1,5,1,9,1,1,1,1,14,1,1,5,1,1,6,1,3,1,6,1,1,5,1,1,0,17,0,9,0,1,0,1,3]) (c:=(cnF::cnF::cnF::cnF::cnF::cnF::cnF::cnF::cnF::cnF::cnF::cnF::cnF::cnF::cnF::cnF::cnF::cnF::cnF::cnT::cnT::cnT::cnF::cnT::cnF::[])) (by kernel_rfl) ⟨h0,h0,h0,h0,h1,h2,h2,h2,h3,h4,h4,h4,h4,h4,h4,h5,h5,h5,h5,h6,h6,h6,h5,h6,h5,trivial⟩
theorem r2_ffffffft (h0:(!xae ct (Int.ofNat 0))=false) (h1:(!xae fi (Int.ofNat 0))=false) (h2:(!true == xak (Int.ofNat 0) (Int.ofNat ln))=false) (h3:(xak (Int.ofNat 16) (Int.ofNat ln))=false) (h4:(!xae (Int.ofNat dn) (Int.ofNat ln))=false) (h5:(xbr (Int.ofNat 3) sub)=false) (h6:(xak (Int.ofNat 0) sub)=false) (h7:(xak (Int.ofNat 0) pl)=true) :
 rE (Int.ofNat 2) sub pl fi ct la ln lv da dn dv (false) :=
 xaa (q:=qNs [41,1,1,5,1,3,1,5,1,9,1,1,1,1,14,1,1,5,1,1,6,1,3,1,6,1,1,5,1,1,1,1,1,1,1,1,6,0,0,5,0,0,5,0,3,0,3]) (c:=(cnF::cnF::cnF::cnF::cnF::cnF::cnF::cnF::cnF::cnF::cnF::cnF::cnF::cnF::cnF::cnF::cnF::cnF::cnF::cnF::cnF::cnF::cnF::cnF::cnF::cnT::cnT::cnT::cnT::cnT::cnT::[])) (by kernel_rfl) ⟨h0,h0,h0,h0,h1,h2,h2,h2,h3,h4,h4,h4,h4,h4,h4,h5,h5,h5,h5,h6,h6,h6,h5,h6,h5,h7,h7,h7,h7,h7,h7,trivial⟩
theorem r2_fffffffft (h0:(!xae ct (Int.ofNat 0))=false) (h1:(!xae fi (Int.ofNat 0))=false) (h2:(!true == xak (Int.ofNat 0) (Int.ofNat ln))=false) (h3:(xak (Int.ofNat 16) (Int.ofNat ln))=false) (h4:(!xae (Int.ofNat dn) (Int.ofNat ln))=false) (h5:(xbr (Int.ofNat 3) sub)=false) (h6:(xak (Int.ofNat 0) sub)=false) (h7:(xak (Int.ofNat 0) pl)=false) (h8:(okD xdd dv)=true) (h9:(AV.plainL dv)=true) (h10:(isD dv)=true) (h11:(dv.length.beq dn)=true) (h12:(dn.beq dn)=true) (h13:(dn.ble 1099511627776)=true) :
 rE (Int.ofNat 2) sub pl fi ct la ln lv da dn dv (true) :=
 xaa (q:=qNs [41,1,1,5,1,3,1,5,1,9,1,1,1,1,14,1,1,5,1,1,6,1,3,1,6,1,1,5,1,1,1,1,1,1,1,1,6,1,1,1,1,1,1,6,0,4,0,0,0,0,0,3,0,0,3,0]) (c:=(cnF::cnF::cnF::cnF::cnF::cnF::cnF::cnF::cnF::cnF::cnF::cnF::cnF::cnF::cnF::cnF::cnF::cnF::cnF::cnF::cnF::cnF::cnF::cnF::cnF::cnF::cnF::cnF::cnF::cnF::cnF::Cnd.code (ZLT.lsumS (xbz tys) ((108,0),ixL).snd).fst (ZLT.lsumS (xbz tys) ((108,0),ixL).snd).fst::cnT::cnT::cnT::cnT::cnT::cnT::cnT::cnT::cnT::[])) (by kernel_rfl) ⟨h0,h0,h0,h0,h1,h2,h2,h2,h3,h4,h4,h4,h4,h4,h4,h5,h5,h5,h5,h6,h6,h6,h5,h6,h5,h7,h7,h7,h7,h7,h7,rfl,h8,h9,h9,h10,h11,h12,h13,h8,h9,trivial⟩
theorem r2_fffffffff (h0:(!xae ct (Int.ofNat 0))=false) (h1:(!xae fi (Int.ofNat 0))=false) (h2:(!true == xak (Int.ofNat 0) (Int.ofNat ln))=false) (h3:(xak (Int.ofNat 16) (Int.ofNat ln))=false) (h4:(!xae (Int.ofNat dn) (Int.ofNat ln))=false) (h5:(xbr (Int.ofNat 3) sub)=false) (h6:(xak (Int.ofNat 0) sub)=false) (h7:(xak (Int.ofNat 0) pl)=false) (h8:(okD xdd dv)=false) (h9:(AV.plainL dv)=true) (h10:(isD dv)=true) (h11:(dv.length.beq dn)=true) (h12:(dn.beq dn)=true) (h13:(dn.ble 1099511627776)=true) (h14:(!okD xdd dv)=true) :
 rE (Int.ofNat 2) sub pl fi ct la ln lv da dn dv (!xbr (Int.ofNat 0) (Int.ofNat (xmf xdd dv))) :=
 xaa (q:=qNs [41,1,1,5,1,3,1,5,1,9,1,1,1,1,14,1,1,5,1,1,6,1,3,1,6,1,1,5,1,1,1,1,1,1,1,1,6,1,1,1,1,1,1,6,1,4,0,0,0,0,0,3,0,0,3,0]) (c:=(cnF::cnF::cnF::cnF::cnF::cnF::cnF::cnF::cnF::cnF::cnF::cnF::cnF::cnF::cnF::cnF::cnF::cnF::cnF::cnF::cnF::cnF::cnF::cnF::cnF::cnF::cnF::cnF::cnF::cnF::cnF::Cnd.code (ZLT.lsumS (xbz tys) ((108,0),ixL).snd).fst (ZLT.lsumS (xbz tys) ((108,0),ixL).snd).fst::cnF::cnT::cnT::cnT::cnT::cnT::cnT::cnT::cnT::[])) (by kernel_rfl) ⟨h0,h0,h0,h0,h1,h2,h2,h2,h3,h4,h4,h4,h4,h4,h4,h5,h5,h5,h5,h6,h6,h6,h5,h6,h5,h7,h7,h7,h7,h7,h7,rfl,h8,h9,h9,h10,h11,h12,h13,h14,h9,trivial⟩
theorem r3_t (h0:(!xae ct (Int.ofNat 0))=true) :
 rE (Int.ofNat 3) sub pl fi ct la ln lv da dn dv (false) :=
 xaa (q:=qNs [41,0,0,0,3,0,6]) (c:=(cnT::cnT::cnT::cnT::[])) (by kernel_rfl) ⟨h0,h0,h0,h0,trivial⟩
theorem r3_ft (h0:(!xae ct (Int.ofNat 0))=false) (h1:(!xae fi (Int.ofNat 0))=true) :
 rE (Int.ofNat 3) sub pl fi ct la ln lv da dn dv (false) :=
 xaa (q:=qNs [41,1,1,5,1,3,1,5,0]) (c:=(cnF::cnF::cnF::cnF::cnT::[])) (by kernel_rfl) ⟨h0,h0,h0,h0,h1,trivial⟩
theorem r3_fft (h0:(!xae ct (Int.ofNat 0))=false) (h1:(!xae fi (Int.ofNat 0))=false) (h2:(!true == xak (Int.ofNat 0) (Int.ofNat ln))=true) :
 rE (Int.ofNat 3) sub pl fi ct la ln lv da dn dv (false) :=
 xaa (q:=qNs [41,1,1,5,1,3,1,5,1,12,0,0,0,3]) (c:=(cnF::cnF::cnF::cnF::cnF::cnT::cnT::cnT::[])) (by kernel_rfl) ⟨h0,h0,h0,h0,h1,h2,h2,h2,trivial⟩
theorem r3_ffft (h0:(!xae ct (Int.ofNat 0))=false) (h1:(!xae fi (Int.ofNat 0))=false) (h2:(!true == xak (Int.ofNat 0) (Int.ofNat ln))=false) (h3:(xak (Int.ofNat 16) (Int.ofNat ln))=true) :
 rE (Int.ofNat 3) sub pl fi ct la ln lv da dn dv (false) :=
 xaa (q:=qNs [41,1,1,5,1,3,1,5,1,12,1,1,1,0]) (c:=(cnF::cnF::cnF::cnF::cnF::cnF::cnF::cnF::cnT::[])) (by kernel_rfl) ⟨h0,h0,h0,h0,h1,h2,h2,h2,h3,trivial⟩
theorem r3_fffft (h0:(!xae ct (Int.ofNat 0))=false) (h1:(!xae fi (Int.ofNat 0))=false) (h2:(!true == xak (Int.ofNat 0) (Int.ofNat ln))=false) (h3:(xak (Int.ofNat 16) (Int.ofNat ln))=false) (h4:(xak (Int.ofNat 0) (Int.ofNat dn))=true) :
 rE (Int.ofNat 3) sub pl fi ct la ln lv da dn dv (false) :=
 xaa (q:=qNs [41,1,1,5,1,3,1,5,1,12,1,1,1,1,28,0]) (c:=(cnF::cnF::cnF::cnF::cnF::cnF::cnF::cnF::cnF::cnT::[])) (by kernel_rfl) ⟨h0,h0,h0,h0,h1,h2,h2,h2,h3,h4,trivial⟩
theorem r3_ffffft (h0:(!xae ct (Int.ofNat 0))=false) (h1:(!xae fi (Int.ofNat 0))=false) (h2:(!true == xak (Int.ofNat 0) (Int.ofNat ln))=false) (h3:(xak (Int.ofNat 16) (Int.ofNat ln))=false) (h4:(xak (Int.ofNat 0) (Int.ofNat dn))=false) (h5:(xbr (Int.ofNat 3) sub)=true) :
 rE (Int.ofNat 3) sub pl fi ct la ln lv da dn dv (false) :=
 xaa (q:=qNs [41,1,1,5,1,3,1,5,1,12,1,1,1,1,28,1,5,0,0,0,0,0,0,3]) (c:=(cnF::cnF::cnF::cnF::cnF::cnF::cnF::cnF::cnF::cnF::cnT::cnT::cnT::cnT::cnT::cnT::[])) (by kernel_rfl) ⟨h0,h0,h0,h0,h1,h2,h2,h2,h3,h4,h5,h5,h5,h5,h5,h5,trivial⟩
theorem r3_fffffft (h0:(!xae ct (Int.ofNat 0))=false) (h1:(!xae fi (Int.ofNat 0))=false) (h2:(!true == xak (Int.ofNat 0) (Int.ofNat ln))=false) (h3:(xak (Int.ofNat 16) (Int.ofNat ln))=false) (h4:(xak (Int.ofNat 0) (Int.ofNat dn))=false) (h5:(xbr (Int.ofNat 3) sub)=false) (h6:(xak (Int.ofNat 0) sub)=true) :
 rE (Int.ofNat 3) sub pl fi ct la ln lv da dn dv (false) :=
 xaa (q:=qNs [41,1,1,5,1,3,1,5,1,12,1,1,1,1,28,1,5,1,1,5,1,1,0,17,0,9,0,1,0,1,3]) (c:=(cnF::cnF::cnF::cnF::cnF::cnF::cnF::cnF::cnF::cnF::cnF::cnF::cnF::cnF::cnT::cnT::cnT::cnF::cnT::cnF::[])) (by kernel_rfl) ⟨h0,h0,h0,h0,h1,h2,h2,h2,h3,h4,h5,h5,h5,h5,h6,h6,h6,h5,h6,h5,trivial⟩
theorem r3_ffffffft (h0:(!xae ct (Int.ofNat 0))=false) (h1:(!xae fi (Int.ofNat 0))=false) (h2:(!true == xak (Int.ofNat 0) (Int.ofNat ln))=false) (h3:(xak (Int.ofNat 16) (Int.ofNat ln))=false) (h4:(xak (Int.ofNat 0) (Int.ofNat dn))=false) (h5:(xbr (Int.ofNat 3) sub)=false) (h6:(xak (Int.ofNat 0) sub)=false) (h7:(xak (Int.ofNat 0) pl)=true) :
 rE (Int.ofNat 3) sub pl fi ct la ln lv da dn dv (false) :=
 xaa (q:=qNs [41,1,1,5,1,3,1,5,1,12,1,1,1,1,28,1,5,1,1,5,1,1,1,1,1,1,1,1,6,0,0,5,0,0,5,0,3,0,3]) (c:=(cnF::cnF::cnF::cnF::cnF::cnF::cnF::cnF::cnF::cnF::cnF::cnF::cnF::cnF::cnF::cnF::cnF::cnF::cnF::cnF::cnT::cnT::cnT::cnT::cnT::cnT::[])) (by kernel_rfl) ⟨h0,h0,h0,h0,h1,h2,h2,h2,h3,h4,h5,h5,h5,h5,h6,h6,h6,h5,h6,h5,h7,h7,h7,h7,h7,h7,trivial⟩
theorem r3_fffffffft (h0:(!xae ct (Int.ofNat 0))=false) (h1:(!xae fi (Int.ofNat 0))=false) (h2:(!true == xak (Int.ofNat 0) (Int.ofNat ln))=false) (h3:(xak (Int.ofNat 16) (Int.ofNat ln))=false) (h4:(xak (Int.ofNat 0) (Int.ofNat dn))=false) (h5:(xbr (Int.ofNat 3) sub)=false) (h6:(xak (Int.ofNat 0) sub)=false) (h7:(xak (Int.ofNat 0) pl)=false) (h8:(okD xdd dv)=true) (h9:(AV.plainL dv)=true) (h10:(isD dv)=true) (h11:(dv.length.beq dn)=true) (h12:(dn.beq dn)=true) (h13:(dn.ble 1099511627776)=true) :
 rE (Int.ofNat 3) sub pl fi ct la ln lv da dn dv (true) :=
 xaa (q:=qNs [41,1,1,5,1,3,1,5,1,12,1,1,1,1,28,1,5,1,1,5,1,1,1,1,1,1,1,1,6,1,1,1,1,1,1,6,0,4,0,0,0,0,0,3,0,0,3,0]) (c:=(cnF::cnF::cnF::cnF::cnF::cnF::cnF::cnF::cnF::cnF::cnF::cnF::cnF::cnF::cnF::cnF::cnF::cnF::cnF::cnF::cnF::cnF::cnF::cnF::cnF::cnF::Cnd.code (ZLT.lsumS (xbz tys) ((108,0),ixL).snd).fst (ZLT.lsumS (xbz tys) ((108,0),ixL).snd).fst::cnT::cnT::cnT::cnT::cnT::cnT::cnT::cnT::cnT::[])) (by kernel_rfl) ⟨h0,h0,h0,h0,h1,h2,h2,h2,h3,h4,h5,h5,h5,h5,h6,h6,h6,h5,h6,h5,h7,h7,h7,h7,h7,h7,rfl,h8,h9,h9,h10,h11,h12,h13,h8,h9,trivial⟩
theorem r3_fffffffff (h0:(!xae ct (Int.ofNat 0))=false) (h1:(!xae fi (Int.ofNat 0))=false) (h2:(!true == xak (Int.ofNat 0) (Int.ofNat ln))=false) (h3:(xak (Int.ofNat 16) (Int.ofNat ln))=false) (h4:(xak (Int.ofNat 0) (Int.ofNat dn))=false) (h5:(xbr (Int.ofNat 3) sub)=false) (h6:(xak (Int.ofNat 0) sub)=false) (h7:(xak (Int.ofNat 0) pl)=false) (h8:(okD xdd dv)=false) (h9:(AV.plainL dv)=true) (h10:(isD dv)=true) (h11:(dv.length.beq dn)=true) (h12:(dn.beq dn)=true) (h13:(dn.ble 1099511627776)=true) (h14:(!okD xdd dv)=true) :
 rE (Int.ofNat 3) sub pl fi ct la ln lv da dn dv (!xbr (Int.ofNat 0) (Int.ofNat (xmf xdd dv))) :=
 xaa (q:=qNs [41,1,1,5,1,3,1,5,1,12,1,1,1,1,28,1,5,1,1,5,1,1,1,1,1,1,1,1,6,1,1,1,1,1,1,6,1,4,0,0,0,0,0,3,0,0,3,0]) (c:=(cnF::cnF::cnF::cnF::cnF::cnF::cnF::cnF::cnF::cnF::cnF::cnF::cnF::cnF::cnF::cnF::cnF::cnF::cnF::cnF::cnF::cnF::cnF::cnF::cnF::cnF::Cnd.code (ZLT.lsumS (xbz tys) ((108,0),ixL).snd).fst (ZLT.lsumS (xbz tys) ((108,0),ixL).snd).fst::cnF::cnT::cnT::cnT::cnT::cnT::cnT::cnT::cnT::[])) (by kernel_rfl) ⟨h0,h0,h0,h0,h1,h2,h2,h2,h3,h4,h5,h5,h5,h5,h6,h6,h6,h5,h6,h5,h7,h7,h7,h7,h7,h7,rfl,h8,h9,h9,h10,h11,h12,h13,h14,h9,trivial⟩
theorem r4_t (h0:(!xae ct (Int.ofNat 0))=true) :
 rE (Int.ofNat 4) sub pl fi ct la ln lv da dn dv (false) :=
 xaa (q:=qNs [41,0,0,0,3,0,6]) (c:=(cnT::cnT::cnT::cnT::[])) (by kernel_rfl) ⟨h0,h0,h0,h0,trivial⟩
theorem r4_ft (h0:(!xae ct (Int.ofNat 0))=false) (h1:(!xae fi (Int.ofNat 0))=true) :
 rE (Int.ofNat 4) sub pl fi ct la ln lv da dn dv (false) :=
 xaa (q:=qNs [41,1,1,5,1,3,1,5,0]) (c:=(cnF::cnF::cnF::cnF::cnT::[])) (by kernel_rfl) ⟨h0,h0,h0,h0,h1,trivial⟩
theorem r4_fft (h0:(!xae ct (Int.ofNat 0))=false) (h1:(!xae fi (Int.ofNat 0))=false) (h2:(!false == xak (Int.ofNat 0) (Int.ofNat ln))=true) :
 rE (Int.ofNat 4) sub pl fi ct la ln lv da dn dv (false) :=
 xaa (q:=qNs [41,1,1,5,1,3,1,5,1,12,0,0,0,3]) (c:=(cnF::cnF::cnF::cnF::cnF::cnT::cnT::cnT::[])) (by kernel_rfl) ⟨h0,h0,h0,h0,h1,h2,h2,h2,trivial⟩
theorem r4_ffft (h0:(!xae ct (Int.ofNat 0))=false) (h1:(!xae fi (Int.ofNat 0))=false) (h2:(!false == xak (Int.ofNat 0) (Int.ofNat ln))=false) (h3:(xak (Int.ofNat 16) (Int.ofNat ln))=true) :
 rE (Int.ofNat 4) sub pl fi ct la ln lv da dn dv (false) :=
 xaa (q:=qNs [41,1,1,5,1,3,1,5,1,12,1,1,1,0]) (c:=(cnF::cnF::cnF::cnF::cnF::cnF::cnF::cnF::cnT::[])) (by kernel_rfl) ⟨h0,h0,h0,h0,h1,h2,h2,h2,h3,trivial⟩
theorem r4_fffft (h0:(!xae ct (Int.ofNat 0))=false) (h1:(!xae fi (Int.ofNat 0))=false) (h2:(!false == xak (Int.ofNat 0) (Int.ofNat ln))=false) (h3:(xak (Int.ofNat 16) (Int.ofNat ln))=false) (h4:(xak (Int.ofNat 0) (Int.ofNat dn))=true) :
 rE (Int.ofNat 4) sub pl fi ct la ln lv da dn dv (false) :=
 xaa (q:=qNs [41,1,1,5,1,3,1,5,1,12,1,1,1,1,28,0]) (c:=(cnF::cnF::cnF::cnF::cnF::cnF::cnF::cnF::cnF::cnT::[])) (by kernel_rfl) ⟨h0,h0,h0,h0,h1,h2,h2,h2,h3,h4,trivial⟩
theorem r4_ffffft (h0:(!xae ct (Int.ofNat 0))=false) (h1:(!xae fi (Int.ofNat 0))=false) (h2:(!false == xak (Int.ofNat 0) (Int.ofNat ln))=false) (h3:(xak (Int.ofNat 16) (Int.ofNat ln))=false) (h4:(xak (Int.ofNat 0) (Int.ofNat dn))=false) (h5:(xbr (Int.ofNat 3) sub)=true) :
 rE (Int.ofNat 4) sub pl fi ct la ln lv da dn dv (false) :=
 xaa (q:=qNs [41,1,1,5,1,3,1,5,1,12,1,1,1,1,28,1,5,0,0,0,0,0,0,3]) (c:=(cnF::cnF::cnF::cnF::cnF::cnF::cnF::cnF::cnF::cnF::cnT::cnT::cnT::cnT::cnT::cnT::[])) (by kernel_rfl) ⟨h0,h0,h0,h0,h1,h2,h2,h2,h3,h4,h5,h5,h5,h5,h5,h5,trivial⟩
theorem r4_fffffft (h0:(!xae ct (Int.ofNat 0))=false) (h1:(!xae fi (Int.ofNat 0))=false) (h2:(!false == xak (Int.ofNat 0) (Int.ofNat ln))=false) (h3:(xak (Int.ofNat 16) (Int.ofNat ln))=false) (h4:(xak (Int.ofNat 0) (Int.ofNat dn))=false) (h5:(xbr (Int.ofNat 3) sub)=false) (h6:(xak (Int.ofNat 0) sub)=true) :
 rE (Int.ofNat 4) sub pl fi ct la ln lv da dn dv (false) :=
 xaa (q:=qNs [41,1,1,5,1,3,1,5,1,12,1,1,1,1,28,1,5,1,1,5,1,1,0,17,0,9,0,1,0,1,3]) (c:=(cnF::cnF::cnF::cnF::cnF::cnF::cnF::cnF::cnF::cnF::cnF::cnF::cnF::cnF::cnT::cnT::cnT::cnF::cnT::cnF::[])) (by kernel_rfl) ⟨h0,h0,h0,h0,h1,h2,h2,h2,h3,h4,h5,h5,h5,h5,h6,h6,h6,h5,h6,h5,trivial⟩
theorem r4_ffffffft (h0:(!xae ct (Int.ofNat 0))=false) (h1:(!xae fi (Int.ofNat 0))=false) (h2:(!false == xak (Int.ofNat 0) (Int.ofNat ln))=false) (h3:(xak (Int.ofNat 16) (Int.ofNat ln))=false) (h4:(xak (Int.ofNat 0) (Int.ofNat dn))=false) (h5:(xbr (Int.ofNat 3) sub)=false) (h6:(xak (Int.ofNat 0) sub)=false) (h7:(xak (Int.ofNat 0) pl)=true) :
 rE (Int.ofNat 4) sub pl fi ct la ln lv da dn dv (false) :=
 xaa (q:=qNs [41,1,1,5,1,3,1,5,1,12,1,1,1,1,28,1,5,1,1,5,1,1,1,1,1,1,1,1,6,0,0,5,0,0,5,0,3,0,3]) (c:=(cnF::cnF::cnF::cnF::cnF::cnF::cnF::cnF::cnF::cnF::cnF::cnF::cnF::cnF::cnF::cnF::cnF::cnF::cnF::cnF::cnT::cnT::cnT::cnT::cnT::cnT::[])) (by kernel_rfl) ⟨h0,h0,h0,h0,h1,h2,h2,h2,h3,h4,h5,h5,h5,h5,h6,h6,h6,h5,h6,h5,h7,h7,h7,h7,h7,h7,trivial⟩
theorem r4_fffffffft (h0:(!xae ct (Int.ofNat 0))=false) (h1:(!xae fi (Int.ofNat 0))=false) (h2:(!false == xak (Int.ofNat 0) (Int.ofNat ln))=false) (h3:(xak (Int.ofNat 16) (Int.ofNat ln))=false) (h4:(xak (Int.ofNat 0) (Int.ofNat dn))=false) (h5:(xbr (Int.ofNat 3) sub)=false) (h6:(xak (Int.ofNat 0) sub)=false) (h7:(xak (Int.ofNat 0) pl)=false) (h8:(okD xdd dv)=true) (h9:(AV.plainL dv)=true) (h10:(isD dv)=true) (h11:(dv.length.beq dn)=true) (h12:(dn.beq dn)=true) (h13:(dn.ble 1099511627776)=true) :
 rE (Int.ofNat 4) sub pl fi ct la ln lv da dn dv (true) :=
 xaa (q:=qNs [41,1,1,5,1,3,1,5,1,12,1,1,1,1,28,1,5,1,1,5,1,1,1,1,1,1,1,1,6,1,1,1,1,1,1,6,0,4,0,0,0,0,0,3,0,0,3,0]) (c:=(cnF::cnF::cnF::cnF::cnF::cnF::cnF::cnF::cnF::cnF::cnF::cnF::cnF::cnF::cnF::cnF::cnF::cnF::cnF::cnF::cnF::cnF::cnF::cnF::cnF::cnF::Cnd.code (ZLT.lsumS (xbz tys) ((108,0),ixL).snd).fst (ZLT.lsumS (xbz tys) ((108,0),ixL).snd).fst::cnT::cnT::cnT::cnT::cnT::cnT::cnT::cnT::cnT::[])) (by kernel_rfl) ⟨h0,h0,h0,h0,h1,h2,h2,h2,h3,h4,h5,h5,h5,h5,h6,h6,h6,h5,h6,h5,h7,h7,h7,h7,h7,h7,rfl,h8,h9,h9,h10,h11,h12,h13,h8,h9,trivial⟩
theorem r4_fffffffff (h0:(!xae ct (Int.ofNat 0))=false) (h1:(!xae fi (Int.ofNat 0))=false) (h2:(!false == xak (Int.ofNat 0) (Int.ofNat ln))=false) (h3:(xak (Int.ofNat 16) (Int.ofNat ln))=false) (h4:(xak (Int.ofNat 0) (Int.ofNat dn))=false) (h5:(xbr (Int.ofNat 3) sub)=false) (h6:(xak (Int.ofNat 0) sub)=false) (h7:(xak (Int.ofNat 0) pl)=false) (h8:(okD xdd dv)=false) (h9:(AV.plainL dv)=true) (h10:(isD dv)=true) (h11:(dv.length.beq dn)=true) (h12:(dn.beq dn)=true) (h13:(dn.ble 1099511627776)=true) (h14:(!okD xdd dv)=true) :
 rE (Int.ofNat 4) sub pl fi ct la ln lv da dn dv (!xbr (Int.ofNat 0) (Int.ofNat (xmf xdd dv))) :=
 xaa (q:=qNs [41,1,1,5,1,3,1,5,1,12,1,1,1,1,28,1,5,1,1,5,1,1,1,1,1,1,1,1,6,1,1,1,1,1,1,6,1,4,0,0,0,0,0,3,0,0,3,0]) (c:=(cnF::cnF::cnF::cnF::cnF::cnF::cnF::cnF::cnF::cnF::cnF::cnF::cnF::cnF::cnF::cnF::cnF::cnF::cnF::cnF::cnF::cnF::cnF::cnF::cnF::cnF::Cnd.code (ZLT.lsumS (xbz tys) ((108,0),ixL).snd).fst (ZLT.lsumS (xbz tys) ((108,0),ixL).snd).fst::cnF::cnT::cnT::cnT::cnT::cnT::cnT::cnT::cnT::[])) (by kernel_rfl) ⟨h0,h0,h0,h0,h1,h2,h2,h2,h3,h4,h5,h5,h5,h5,h6,h6,h6,h5,h6,h5,h7,h7,h7,h7,h7,h7,rfl,h8,h9,h9,h10,h11,h12,h13,h14,h9,trivial⟩
theorem r5_t (h0:(!xae ct (Int.ofNat 0))=true) :
 rE (Int.ofNat 5) sub pl fi ct la ln lv da dn dv (false) :=
 xaa (q:=qNs [41,0,0,0,3,0,6]) (c:=(cnT::cnT::cnT::cnT::[])) (by kernel_rfl) ⟨h0,h0,h0,h0,trivial⟩
theorem r5_ft (h0:(!xae ct (Int.ofNat 0))=false) (h1:(!xae fi (Int.ofNat 0))=true) :
 rE (Int.ofNat 5) sub pl fi ct la ln lv da dn dv (false) :=
 xaa (q:=qNs [41,1,1,5,1,3,1,5,0]) (c:=(cnF::cnF::cnF::cnF::cnT::[])) (by kernel_rfl) ⟨h0,h0,h0,h0,h1,trivial⟩
theorem r5_fft (h0:(!xae ct (Int.ofNat 0))=false) (h1:(!xae fi (Int.ofNat 0))=false) (h2:(!false == xak (Int.ofNat 0) (Int.ofNat ln))=true) :
 rE (Int.ofNat 5) sub pl fi ct la ln lv da dn dv (false) :=
 xaa (q:=qNs [41,1,1,5,1,3,1,5,1,12,0,0,0,3]) (c:=(cnF::cnF::cnF::cnF::cnF::cnT::cnT::cnT::[])) (by kernel_rfl) ⟨h0,h0,h0,h0,h1,h2,h2,h2,trivial⟩
theorem r5_ffft (h0:(!xae ct (Int.ofNat 0))=false) (h1:(!xae fi (Int.ofNat 0))=false) (h2:(!false == xak (Int.ofNat 0) (Int.ofNat ln))=false) (h3:(xak (Int.ofNat 16) (Int.ofNat ln))=true) :
 rE (Int.ofNat 5) sub pl fi ct la ln lv da dn dv (false) :=
 xaa (q:=qNs [41,1,1,5,1,3,1,5,1,12,1,1,1,0]) (c:=(cnF::cnF::cnF::cnF::cnF::cnF::cnF::cnF::cnT::[])) (by kernel_rfl) ⟨h0,h0,h0,h0,h1,h2,h2,h2,h3,trivial⟩
theorem r5_fffft (h0:(!xae ct (Int.ofNat 0))=false) (h1:(!xae fi (Int.ofNat 0))=false) (h2:(!false == xak (Int.ofNat 0) (Int.ofNat ln))=false) (h3:(xak (Int.ofNat 16) (Int.ofNat ln))=false) (h4:(xak (Int.ofNat 0) (Int.ofNat dn))=true) :
 rE (Int.ofNat 5) sub pl fi ct la ln lv da dn dv (false) :=
 xaa (q:=qNs [41,1,1,5,1,3,1,5,1,12,1,1,1,1,28,0]) (c:=(cnF::cnF::cnF::cnF::cnF::cnF::cnF::cnF::cnF::cnT::[])) (by kernel_rfl) ⟨h0,h0,h0,h0,h1,h2,h2,h2,h3,h4,trivial⟩
theorem r5_ffffft (h0:(!xae ct (Int.ofNat 0))=false) (h1:(!xae fi (Int.ofNat 0))=false) (h2:(!false == xak (Int.ofNat 0) (Int.ofNat ln))=false) (h3:(xak (Int.ofNat 16) (Int.ofNat ln))=false) (h4:(xak (Int.ofNat 0) (Int.ofNat dn))=false) (h5:(xbr (Int.ofNat 3) sub)=true) :
 rE (Int.ofNat 5) sub pl fi ct la ln lv da dn dv (false) :=
 xaa (q:=qNs [41,1,1,5,1,3,1,5,1,12,1,1,1,1,28,1,5,0,0,0,0,0,0,3]) (c:=(cnF::cnF::cnF::cnF::cnF::cnF::cnF::cnF::cnF::cnF::cnT::cnT::cnT::cnT::cnT::cnT::[])) (by kernel_rfl) ⟨h0,h0,h0,h0,h1,h2,h2,h2,h3,h4,h5,h5,h5,h5,h5,h5,trivial⟩
theorem r5_fffffftt (h0:(!xae ct (Int.ofNat 0))=false) (h1:(!xae fi (Int.ofNat 0))=false) (h2:(!false == xak (Int.ofNat 0) (Int.ofNat ln))=false) (h3:(xak (Int.ofNat 16) (Int.ofNat ln))=false) (h4:(xak (Int.ofNat 0) (Int.ofNat dn))=false) (h5:(xbr (Int.ofNat 3) sub)=false) (h6:(xak (Int.ofNat 0) sub)=true) (h7:(xak (Int.ofNat 0) pl)=true) :
 rE (Int.ofNat 5) sub pl fi ct la ln lv da dn dv (false) :=
 xaa (q:=qNs [41,1,1,5,1,3,1,5,1,12,1,1,1,1,28,1,5,1,1,5,1,1,0,17,0,12,0,1,0,1,6,0,0,5,0,0,5,0,3,0,3]) (c:=(cnF::cnF::cnF::cnF::cnF::cnF::cnF::cnF::cnF::cnF::cnF::cnF::cnF::cnF::cnT::cnT::cnT::cnF::cnT::cnF::cnT::cnT::cnT::cnT::cnT::cnT::[])) (by kernel_rfl) ⟨h0,h0,h0,h0,h1,h2,h2,h2,h3,h4,h5,h5,h5,h5,h6,h6,h6,h5,h6,h5,h7,h7,h7,h7,h7,h7,trivial⟩
theorem r5_ffffffft (h0:(!xae ct (Int.ofNat 0))=false) (h1:(!xae fi (Int.ofNat 0))=false) (h2:(!false == xak (Int.ofNat 0) (Int.ofNat ln))=false) (h3:(xak (Int.ofNat 16) (Int.ofNat ln))=false) (h4:(xak (Int.ofNat 0) (Int.ofNat dn))=false) (h5:(xbr (Int.ofNat 3) sub)=false) (h6:(xak (Int.ofNat 0) sub)=false) (h7:(xak (Int.ofNat 0) pl)=true) :
 rE (Int.ofNat 5) sub pl fi ct la ln lv da dn dv (false) :=
 xaa (q:=qNs [41,1,1,5,1,3,1,5,1,12,1,1,1,1,28,1,5,1,1,5,1,1,1,1,1,1,1,1,6,0,0,5,0,0,5,0,3,0,3]) (c:=(cnF::cnF::cnF::cnF::cnF::cnF::cnF::cnF::cnF::cnF::cnF::cnF::cnF::cnF::cnF::cnF::cnF::cnF::cnF::cnF::cnT::cnT::cnT::cnT::cnT::cnT::[])) (by kernel_rfl) ⟨h0,h0,h0,h0,h1,h2,h2,h2,h3,h4,h5,h5,h5,h5,h6,h6,h6,h5,h6,h5,h7,h7,h7,h7,h7,h7,trivial⟩
theorem r5_fffffftft (h0:(!xae ct (Int.ofNat 0))=false) (h1:(!xae fi (Int.ofNat 0))=false) (h2:(!false == xak (Int.ofNat 0) (Int.ofNat ln))=false) (h3:(xak (Int.ofNat 16) (Int.ofNat ln))=false) (h4:(xak (Int.ofNat 0) (Int.ofNat dn))=false) (h5:(xbr (Int.ofNat 3) sub)=false) (h6:(xak (Int.ofNat 0) sub)=true) (h7:(xak (Int.ofNat 0) pl)=false) (h8:(okD xdd dv)=true) (h9:(AV.plainL dv)=true) (h10:(isD dv)=true) (h11:(dv.length.beq dn)=true) (h12:(dn.beq dn)=true) (h13:(dn.ble 1099511627776)=true) :
 rE (Int.ofNat 5) sub pl fi ct la ln lv da dn dv (true) :=
 xaa (q:=qNs [41,1,1,5,1,3,1,5,1,12,1,1,1,1,28,1,5,1,1,5,1,1,0,17,0,12,0,1,0,1,6,1,1,1,1,1,1,6,0,4,0,0,0,0,0,3,0,0,3,0]) (c:=(cnF::cnF::cnF::cnF::cnF::cnF::cnF::cnF::cnF::cnF::cnF::cnF::cnF::cnF::cnT::cnT::cnT::cnF::cnT::cnF::cnF::cnF::cnF::cnF::cnF::cnF::Cnd.code (ZLT.lsumS (xbz tys) ((108,0),ixL).snd).fst (ZLT.lsumS (xbz tys) ((108,0),ixL).snd).fst::cnT::cnT::cnT::cnT::cnT::cnT::cnT::cnT::cnT::[])) (by kernel_rfl) ⟨h0,h0,h0,h0,h1,h2,h2,h2,h3,h4,h5,h5,h5,h5,h6,h6,h6,h5,h6,h5,h7,h7,h7,h7,h7,h7,rfl,h8,h9,h9,h10,h11,h12,h13,h8,h9,trivial⟩
theorem r5_fffffftff (h0:(!xae ct (Int.ofNat 0))=false) (h1:(!xae fi (Int.ofNat 0))=false) (h2:(!false == xak (Int.ofNat 0) (Int.ofNat ln))=false) (h3:(xak (Int.ofNat 16) (Int.ofNat ln))=false) (h4:(xak (Int.ofNat 0) (Int.ofNat dn))=false) (h5:(xbr (Int.ofNat 3) sub)=false) (h6:(xak (Int.ofNat 0) sub)=true) (h7:(xak (Int.ofNat 0) pl)=false) (h8:(okD xdd dv)=false) (h9:(AV.plainL dv)=true) (h10:(isD dv)=true) (h11:(dv.length.beq dn)=true) (h12:(dn.beq dn)=true) (h13:(dn.ble 1099511627776)=true) (h14:(!okD xdd dv)=true) :
 rE (Int.ofNat 5) sub pl fi ct la ln lv da dn dv (!xbr (Int.ofNat 0) (Int.ofNat (xmf xdd dv))) :=
 xaa (q:=qNs [41,1,1,5,1,3,1,5,1,12,1,1,1,1,28,1,5,1,1,5,1,1,0,17,0,12,0,1,0,1,6,1,1,1,1,1,1,6,1,4,0,0,0,0,0,3,0,0,3,0]) (c:=(cnF::cnF::cnF::cnF::cnF::cnF::cnF::cnF::cnF::cnF::cnF::cnF::cnF::cnF::cnT::cnT::cnT::cnF::cnT::cnF::cnF::cnF::cnF::cnF::cnF::cnF::Cnd.code (ZLT.lsumS (xbz tys) ((108,0),ixL).snd).fst (ZLT.lsumS (xbz tys) ((108,0),ixL).snd).fst::cnF::cnT::cnT::cnT::cnT::cnT::cnT::cnT::cnT::[])) (by kernel_rfl) ⟨h0,h0,h0,h0,h1,h2,h2,h2,h3,h4,h5,h5,h5,h5,h6,h6,h6,h5,h6,h5,h7,h7,h7,h7,h7,h7,rfl,h8,h9,h9,h10,h11,h12,h13,h14,h9,trivial⟩
theorem r5_fffffffft (h0:(!xae ct (Int.ofNat 0))=false) (h1:(!xae fi (Int.ofNat 0))=false) (h2:(!false == xak (Int.ofNat 0) (Int.ofNat ln))=false) (h3:(xak (Int.ofNat 16) (Int.ofNat ln))=false) (h4:(xak (Int.ofNat 0) (Int.ofNat dn))=false) (h5:(xbr (Int.ofNat 3) sub)=false) (h6:(xak (Int.ofNat 0) sub)=false) (h7:(xak (Int.ofNat 0) pl)=false) (h8:(okD xdd dv)=true) (h9:(AV.plainL dv)=true) (h10:(isD dv)=true) (h11:(dv.length.beq dn)=true) (h12:(dn.beq dn)=true) (h13:(dn.ble 1099511627776)=true) :
 rE (Int.ofNat 5) sub pl fi ct la ln lv da dn dv (true) :=
 xaa (q:=qNs [41,1,1,5,1,3,1,5,1,12,1,1,1,1,28,1,5,1,1,5,1,1,1,1,1,1,1,1,6,1,1,1,1,1,1,6,0,4,0,0,0,0,0,3,0,0,3,0]) (c:=(cnF::cnF::cnF::cnF::cnF::cnF::cnF::cnF::cnF::cnF::cnF::cnF::cnF::cnF::cnF::cnF::cnF::cnF::cnF::cnF::cnF::cnF::cnF::cnF::cnF::cnF::Cnd.code (ZLT.lsumS (xbz tys) ((108,0),ixL).snd).fst (ZLT.lsumS (xbz tys) ((108,0),ixL).snd).fst::cnT::cnT::cnT::cnT::cnT::cnT::cnT::cnT::cnT::[])) (by kernel_rfl) ⟨h0,h0,h0,h0,h1,h2,h2,h2,h3,h4,h5,h5,h5,h5,h6,h6,h6,h5,h6,h5,h7,h7,h7,h7,h7,h7,rfl,h8,h9,h9,h10,h11,h12,h13,h8,h9,trivial⟩
theorem r5_fffffffff (h0:(!xae ct (Int.ofNat 0))=false) (h1:(!xae fi (Int.ofNat 0))=false) (h2:(!false == xak (Int.ofNat 0) (Int.ofNat ln))=false) (h3:(xak (Int.ofNat 16) (Int.ofNat ln))=false) (h4:(xak (Int.ofNat 0) (Int.ofNat dn))=false) (h5:(xbr (Int.ofNat 3) sub)=false) (h6:(xak (Int.ofNat 0) sub)=false) (h7:(xak (Int.ofNat 0) pl)=false) (h8:(okD xdd dv)=false) (h9:(AV.plainL dv)=true) (h10:(isD dv)=true) (h11:(dv.length.beq dn)=true) (h12:(dn.beq dn)=true) (h13:(dn.ble 1099511627776)=true) (h14:(!okD xdd dv)=true) :
 rE (Int.ofNat 5) sub pl fi ct la ln lv da dn dv (!xbr (Int.ofNat 0) (Int.ofNat (xmf xdd dv))) :=
 xaa (q:=qNs [41,1,1,5,1,3,1,5,1,12,1,1,1,1,28,1,5,1,1,5,1,1,1,1,1,1,1,1,6,1,1,1,1,1,1,6,1,4,0,0,0,0,0,3,0,0,3,0]) (c:=(cnF::cnF::cnF::cnF::cnF::cnF::cnF::cnF::cnF::cnF::cnF::cnF::cnF::cnF::cnF::cnF::cnF::cnF::cnF::cnF::cnF::cnF::cnF::cnF::cnF::cnF::Cnd.code (ZLT.lsumS (xbz tys) ((108,0),ixL).snd).fst (ZLT.lsumS (xbz tys) ((108,0),ixL).snd).fst::cnF::cnT::cnT::cnT::cnT::cnT::cnT::cnT::cnT::[])) (by kernel_rfl) ⟨h0,h0,h0,h0,h1,h2,h2,h2,h3,h4,h5,h5,h5,h5,h6,h6,h6,h5,h6,h5,h7,h7,h7,h7,h7,h7,rfl,h8,h9,h9,h10,h11,h12,h13,h14,h9,trivial⟩
theorem r6_t (h0:(!xae ct (Int.ofNat 0))=true) :
 rE (Int.ofNat 6) sub pl fi ct la ln lv da dn dv (false) :=
 xaa (q:=qNs [41,0,0,0,3,0,6]) (c:=(cnT::cnT::cnT::cnT::[])) (by kernel_rfl) ⟨h0,h0,h0,h0,trivial⟩
theorem r6_ft (h0:(!xae ct (Int.ofNat 0))=false) (h1:(!xae fi (Int.ofNat 0))=true) :
 rE (Int.ofNat 6) sub pl fi ct la ln lv da dn dv (false) :=
 xaa (q:=qNs [41,1,1,5,1,3,1,5,0]) (c:=(cnF::cnF::cnF::cnF::cnT::[])) (by kernel_rfl) ⟨h0,h0,h0,h0,h1,trivial⟩
theorem r6_fft (h0:(!xae ct (Int.ofNat 0))=false) (h1:(!xae fi (Int.ofNat 0))=false) (h2:(!false == xak (Int.ofNat 0) (Int.ofNat ln))=true) :
 rE (Int.ofNat 6) sub pl fi ct la ln lv da dn dv (false) :=
 xaa (q:=qNs [41,1,1,5,1,3,1,5,1,12,0,0,0,3]) (c:=(cnF::cnF::cnF::cnF::cnF::cnT::cnT::cnT::[])) (by kernel_rfl) ⟨h0,h0,h0,h0,h1,h2,h2,h2,trivial⟩
theorem r6_ffft (h0:(!xae ct (Int.ofNat 0))=false) (h1:(!xae fi (Int.ofNat 0))=false) (h2:(!false == xak (Int.ofNat 0) (Int.ofNat ln))=false) (h3:(xak (Int.ofNat 16) (Int.ofNat ln))=true) :
 rE (Int.ofNat 6) sub pl fi ct la ln lv da dn dv (false) :=
 xaa (q:=qNs [41,1,1,5,1,3,1,5,1,12,1,1,1,0]) (c:=(cnF::cnF::cnF::cnF::cnF::cnF::cnF::cnF::cnT::[])) (by kernel_rfl) ⟨h0,h0,h0,h0,h1,h2,h2,h2,h3,trivial⟩
theorem r6_fffft (h0:(!xae ct (Int.ofNat 0))=false) (h1:(!xae fi (Int.ofNat 0))=false) (h2:(!false == xak (Int.ofNat 0) (Int.ofNat ln))=false) (h3:(xak (Int.ofNat 16) (Int.ofNat ln))=false) (h4:(xak (Int.ofNat 0) (Int.ofNat dn))=true) :
 rE (Int.ofNat 6) sub pl fi ct la ln lv da dn dv (false) :=
 xaa (q:=qNs [41,1,1,5,1,3,1,5,1,12,1,1,1,1,28,0]) (c:=(cnF::cnF::cnF::cnF::cnF::cnF::cnF::cnF::cnF::cnT::[])) (by kernel_rfl) ⟨h0,h0,h0,h0,h1,h2,h2,h2,h3,h4,trivial⟩
theorem r6_ffffft (h0:(!xae ct (Int.ofNat 0))=false) (h1:(!xae fi (Int.ofNat 0))=false) (h2:(!false == xak (Int.ofNat 0) (Int.ofNat ln))=false) (h3:(xak (Int.ofNat 16) (Int.ofNat ln))=false) (h4:(xak (Int.ofNat 0) (Int.ofNat dn))=false) (h5:(xbr (Int.ofNat 3) sub)=true) :
 rE (Int.ofNat 6) sub pl fi ct la ln lv da dn dv (false) :=
 xaa (q:=qNs [41,1,1,5,1,3,1,5,1,12,1,1,1,1,28,1,5,0,0,0,0,0,0,3]) (c:=(cnF::cnF::cnF::cnF::cnF::cnF::cnF::cnF::cnF::cnF::cnT::cnT::cnT::cnT::cnT::cnT::[])) (by kernel_rfl) ⟨h0,h0,h0,h0,h1,h2,h2,h2,h3,h4,h5,h5,h5,h5,h5,h5,trivial⟩
theorem r6_fffffftt (h0:(!xae ct (Int.ofNat 0))=false) (h1:(!xae fi (Int.ofNat 0))=false) (h2:(!false == xak (Int.ofNat 0) (Int.ofNat ln))=false) (h3:(xak (Int.ofNat 16) (Int.ofNat ln))=false) (h4:(xak (Int.ofNat 0) (Int.ofNat dn))=false) (h5:(xbr (Int.ofNat 3) sub)=false) (h6:(xak (Int.ofNat 0) sub)=true) (h7:(xak (Int.ofNat 0) pl)=true) :
 rE (Int.ofNat 6) sub pl fi ct la ln lv da dn dv (false) :=
 xaa (q:=qNs [41,1,1,5,1,3,1,5,1,12,1,1,1,1,28,1,5,1,1,5,1,1,0,17,0,12,0,1,0,1,6,0,0,5,0,0,5,0,3,0,3]) (c:=(cnF::cnF::cnF::cnF::cnF::cnF::cnF::cnF::cnF::cnF::cnF::cnF::cnF::cnF::cnT::cnT::cnT::cnF::cnT::cnF::cnT::cnT::cnT::cnT::cnT::cnT::[])) (by kernel_rfl) ⟨h0,h0,h0,h0,h1,h2,h2,h2,h3,h4,h5,h5,h5,h5,h6,h6,h6,h5,h6,h5,h7,h7,h7,h7,h7,h7,trivial⟩
theorem r6_ffffffft (h0:(!xae ct (Int.ofNat 0))=false) (h1:(!xae fi (Int.ofNat 0))=false) (h2:(!false == xak (Int.ofNat 0) (Int.ofNat ln))=false) (h3:(xak (Int.ofNat 16) (Int.ofNat ln))=false) (h4:(xak (Int.ofNat 0) (Int.ofNat dn))=false) (h5:(xbr (Int.ofNat 3) sub)=false) (h6:(xak (Int.ofNat 0) sub)=false) (h7:(xak (Int.ofNat 0) pl)=true) :
 rE (Int.ofNat 6) sub pl fi ct la ln lv da dn dv (false) :=
 xaa (q:=qNs [41,1,1,5,1,3,1,5,1,12,1,1,1,1,28,1,5,1,1,5,1,1,1,1,1,1,1,1,6,0,0,5,0,0,5,0,3,0,3]) (c:=(cnF::cnF::cnF::cnF::cnF::cnF::cnF::cnF::cnF::cnF::cnF::cnF::cnF::cnF::cnF::cnF::cnF::cnF::cnF::cnF::cnT::cnT::cnT::cnT::cnT::cnT::[])) (by kernel_rfl) ⟨h0,h0,h0,h0,h1,h2,h2,h2,h3,h4,h5,h5,h5,h5,h6,h6,h6,h5,h6,h5,h7,h7,h7,h7,h7,h7,trivial⟩
theorem r6_fffffftft (h0:(!xae ct (Int.ofNat 0))=false) (h1:(!xae fi (Int.ofNat 0))=false) (h2:(!false == xak (Int.ofNat 0) (Int.ofNat ln))=false) (h3:(xak (Int.ofNat 16) (Int.ofNat ln))=false) (h4:(xak (Int.ofNat 0) (Int.ofNat dn))=false) (h5:(xbr (Int.ofNat 3) sub)=false) (h6:(xak (Int.ofNat 0) sub)=true) (h7:(xak (Int.ofNat 0) pl)=false) (h8:(okD xdd dv)=true) (h9:(AV.plainL dv)=true) (h10:(isD dv)=true) (h11:(dv.length.beq dn)=true) (h12:(dn.beq dn)=true) (h13:(dn.ble 1099511627776)=true) :
 rE (Int.ofNat 6) sub pl fi ct la ln lv da dn dv (true) :=
 xaa (q:=qNs [41,1,1,5,1,3,1,5,1,12,1,1,1,1,28,1,5,1,1,5,1,1,0,17,0,12,0,1,0,1,6,1,1,1,1,1,1,6,0,4,0,0,0,0,0,3,0,0,3,0]) (c:=(cnF::cnF::cnF::cnF::cnF::cnF::cnF::cnF::cnF::cnF::cnF::cnF::cnF::cnF::cnT::cnT::cnT::cnF::cnT::cnF::cnF::cnF::cnF::cnF::cnF::cnF::Cnd.code (ZLT.lsumS (xbz tys) ((108,0),ixL).snd).fst (ZLT.lsumS (xbz tys) ((108,0),ixL).snd).fst::cnT::cnT::cnT::cnT::cnT::cnT::cnT::cnT::cnT::[])) (by kernel_rfl) ⟨h0,h0,h0,h0,h1,h2,h2,h2,h3,h4,h5,h5,h5,h5,h6,h6,h6,h5,h6,h5,h7,h7,h7,h7,h7,h7,rfl,h8,h9,h9,h10,h11,h12,h13,h8,h9,trivial⟩
theorem r6_fffffftff (h0:(!xae ct (Int.ofNat 0))=false) (h1:(!xae fi (Int.ofNat 0))=false) (h2:(!false == xak (Int.ofNat 0) (Int.ofNat ln))=false) (h3:(xak (Int.ofNat 16) (Int.ofNat ln))=false) (h4:(xak (Int.ofNat 0) (Int.ofNat dn))=false) (h5:(xbr (Int.ofNat 3) sub)=false) (h6:(xak (Int.ofNat 0) sub)=true) (h7:(xak (Int.ofNat 0) pl)=false) (h8:(okD xdd dv)=false) (h9:(AV.plainL dv)=true) (h10:(isD dv)=true) (h11:(dv.length.beq dn)=true) (h12:(dn.beq dn)=true) (h13:(dn.ble 1099511627776)=true) (h14:(!okD xdd dv)=true) :
 rE (Int.ofNat 6) sub pl fi ct la ln lv da dn dv (!xbr (Int.ofNat 0) (Int.ofNat (xmf xdd dv))) :=
 xaa (q:=qNs [41,1,1,5,1,3,1,5,1,12,1,1,1,1,28,1,5,1,1,5,1,1,0,17,0,12,0,1,0,1,6,1,1,1,1,1,1,6,1,4,0,0,0,0,0,3,0,0,3,0]) (c:=(cnF::cnF::cnF::cnF::cnF::cnF::cnF::cnF::cnF::cnF::cnF::cnF::cnF::cnF::cnT::cnT::cnT::cnF::cnT::cnF::cnF::cnF::cnF::cnF::cnF::cnF::Cnd.code (ZLT.lsumS (xbz tys) ((108,0),ixL).snd).fst (ZLT.lsumS (xbz tys) ((108,0),ixL).snd).fst::cnF::cnT::cnT::cnT::cnT::cnT::cnT::cnT::cnT::[])) (by kernel_rfl) ⟨h0,h0,h0,h0,h1,h2,h2,h2,h3,h4,h5,h5,h5,h5,h6,h6,h6,h5,h6,h5,h7,h7,h7,h7,h7,h7,rfl,h8,h9,h9,h10,h11,h12,h13,h14,h9,trivial⟩
theorem r6_fffffffft (h0:(!xae ct (Int.ofNat 0))=false) (h1:(!xae fi (Int.ofNat 0))=false) (h2:(!false == xak (Int.ofNat 0) (Int.ofNat ln))=false) (h3:(xak (Int.ofNat 16) (Int.ofNat ln))=false) (h4:(xak (Int.ofNat 0) (Int.ofNat dn))=false) (h5:(xbr (Int.ofNat 3) sub)=false) (h6:(xak (Int.ofNat 0) sub)=false) (h7:(xak (Int.ofNat 0) pl)=false) (h8:(okD xdd dv)=true) (h9:(AV.plainL dv)=true) (h10:(isD dv)=true) (h11:(dv.length.beq dn)=true) (h12:(dn.beq dn)=true) (h13:(dn.ble 1099511627776)=true) :
 rE (Int.ofNat 6) sub pl fi ct la ln lv da dn dv (true) :=
 xaa (q:=qNs [41,1,1,5,1,3,1,5,1,12,1,1,1,1,28,1,5,1,1,5,1,1,1,1,1,1,1,1,6,1,1,1,1,1,1,6,0,4,0,0,0,0,0,3,0,0,3,0]) (c:=(cnF::cnF::cnF::cnF::cnF::cnF::cnF::cnF::cnF::cnF::cnF::cnF::cnF::cnF::cnF::cnF::cnF::cnF::cnF::cnF::cnF::cnF::cnF::cnF::cnF::cnF::Cnd.code (ZLT.lsumS (xbz tys) ((108,0),ixL).snd).fst (ZLT.lsumS (xbz tys) ((108,0),ixL).snd).fst::cnT::cnT::cnT::cnT::cnT::cnT::cnT::cnT::cnT::[])) (by kernel_rfl) ⟨h0,h0,h0,h0,h1,h2,h2,h2,h3,h4,h5,h5,h5,h5,h6,h6,h6,h5,h6,h5,h7,h7,h7,h7,h7,h7,rfl,h8,h9,h9,h10,h11,h12,h13,h8,h9,trivial⟩
theorem r6_fffffffff (h0:(!xae ct (Int.ofNat 0))=false) (h1:(!xae fi (Int.ofNat 0))=false) (h2:(!false == xak (Int.ofNat 0) (Int.ofNat ln))=false) (h3:(xak (Int.ofNat 16) (Int.ofNat ln))=false) (h4:(xak (Int.ofNat 0) (Int.ofNat dn))=false) (h5:(xbr (Int.ofNat 3) sub)=false) (h6:(xak (Int.ofNat 0) sub)=false) (h7:(xak (Int.ofNat 0) pl)=false) (h8:(okD xdd dv)=false) (h9:(AV.plainL dv)=true) (h10:(isD dv)=true) (h11:(dv.length.beq dn)=true) (h12:(dn.beq dn)=true) (h13:(dn.ble 1099511627776)=true) (h14:(!okD xdd dv)=true) :
 rE (Int.ofNat 6) sub pl fi ct la ln lv da dn dv (!xbr (Int.ofNat 0) (Int.ofNat (xmf xdd dv))) :=
 xaa (q:=qNs [41,1,1,5,1,3,1,5,1,12,1,1,1,1,28,1,5,1,1,5,1,1,1,1,1,1,1,1,6,1,1,1,1,1,1,6,1,4,0,0,0,0,0,3,0,0,3,0]) (c:=(cnF::cnF::cnF::cnF::cnF::cnF::cnF::cnF::cnF::cnF::cnF::cnF::cnF::cnF::cnF::cnF::cnF::cnF::cnF::cnF::cnF::cnF::cnF::cnF::cnF::cnF::Cnd.code (ZLT.lsumS (xbz tys) ((108,0),ixL).snd).fst (ZLT.lsumS (xbz tys) ((108,0),ixL).snd).fst::cnF::cnT::cnT::cnT::cnT::cnT::cnT::cnT::cnT::[])) (by kernel_rfl) ⟨h0,h0,h0,h0,h1,h2,h2,h2,h3,h4,h5,h5,h5,h5,h6,h6,h6,h5,h6,h5,h7,h7,h7,h7,h7,h7,rfl,h8,h9,h9,h10,h11,h12,h13,h14,h9,trivial⟩
theorem r7_t (h0:(!xae ct (Int.ofNat 0))=true) :
 rE (Int.ofNat 7) sub pl fi ct la ln lv da dn dv (false) :=
 xaa (q:=qNs [41,0,0,0,3,0,6]) (c:=(cnT::cnT::cnT::cnT::[])) (by kernel_rfl) ⟨h0,h0,h0,h0,trivial⟩
theorem r7_ft (h0:(!xae ct (Int.ofNat 0))=false) (h1:(!xae fi (Int.ofNat 0))=true) :
 rE (Int.ofNat 7) sub pl fi ct la ln lv da dn dv (false) :=
 xaa (q:=qNs [41,1,1,5,1,3,1,5,0]) (c:=(cnF::cnF::cnF::cnF::cnT::[])) (by kernel_rfl) ⟨h0,h0,h0,h0,h1,trivial⟩
theorem r7_fft (h0:(!xae ct (Int.ofNat 0))=false) (h1:(!xae fi (Int.ofNat 0))=false) (h2:(!false == xak (Int.ofNat 0) (Int.ofNat ln))=true) :
 rE (Int.ofNat 7) sub pl fi ct la ln lv da dn dv (false) :=
 xaa (q:=qNs [41,1,1,5,1,3,1,5,1,12,0,0,0,3]) (c:=(cnF::cnF::cnF::cnF::cnF::cnT::cnT::cnT::[])) (by kernel_rfl) ⟨h0,h0,h0,h0,h1,h2,h2,h2,trivial⟩
theorem r7_ffft (h0:(!xae ct (Int.ofNat 0))=false) (h1:(!xae fi (Int.ofNat 0))=false) (h2:(!false == xak (Int.ofNat 0) (Int.ofNat ln))=false) (h3:(xak (Int.ofNat 16) (Int.ofNat ln))=true) :
 rE (Int.ofNat 7) sub pl fi ct la ln lv da dn dv (false) :=
 xaa (q:=qNs [41,1,1,5,1,3,1,5,1,12,1,1,1,0]) (c:=(cnF::cnF::cnF::cnF::cnF::cnF::cnF::cnF::cnT::[])) (by kernel_rfl) ⟨h0,h0,h0,h0,h1,h2,h2,h2,h3,trivial⟩
theorem r7_fffft (h0:(!xae ct (Int.ofNat 0))=false) (h1:(!xae fi (Int.ofNat 0))=false) (h2:(!false == xak (Int.ofNat 0) (Int.ofNat ln))=false) (h3:(xak (Int.ofNat 16) (Int.ofNat ln))=false) (h4:(xak (Int.ofNat 0) (Int.ofNat dn))=true) :
 rE (Int.ofNat 7) sub pl fi ct la ln lv da dn dv (false) :=
 xaa (q:=qNs [41,1,1,5,1,3,1,5,1,12,1,1,1,1,28,0]) (c:=(cnF::cnF::cnF::cnF::cnF::cnF::cnF::cnF::cnF::cnT::[])) (by kernel_rfl) ⟨h0,h0,h0,h0,h1,h2,h2,h2,h3,h4,trivial⟩
theorem r7_ffffft (h0:(!xae ct (Int.ofNat 0))=false) (h1:(!xae fi (Int.ofNat 0))=false) (h2:(!false == xak (Int.ofNat 0) (Int.ofNat ln))=false) (h3:(xak (Int.ofNat 16) (Int.ofNat ln))=false) (h4:(xak (Int.ofNat 0) (Int.ofNat dn))=false) (h5:(xbr (Int.ofNat 3) sub)=true) :
 rE (Int.ofNat 7) sub pl fi ct la ln lv da dn dv (false) :=
 xaa (q:=qNs [41,1,1,5,1,3,1,5,1,12,1,1,1,1,28,1,5,0,0,0,0,0,0,3]) (c:=(cnF::cnF::cnF::cnF::cnF::cnF::cnF::cnF::cnF::cnF::cnT::cnT::cnT::cnT::cnT::cnT::[])) (by kernel_rfl) ⟨h0,h0,h0,h0,h1,h2,h2,h2,h3,h4,h5,h5,h5,h5,h5,h5,trivial⟩
theorem r7_ffffffttt (h0:(!xae ct (Int.ofNat 0))=false) (h1:(!xae fi (Int.ofNat 0))=false) (h2:(!false == xak (Int.ofNat 0) (Int.ofNat ln))=false) (h3:(xak (Int.ofNat 16) (Int.ofNat ln))=false) (h4:(xak (Int.ofNat 0) (Int.ofNat dn))=false) (h5:(xbr (Int.ofNat 3) sub)=false) (h6:(xak (Int.ofNat 0) sub)=true) (h7:(xak (Int.ofNat 0) pl)=true) (h8:(!xae sub (Int.ofNat 0))=true) :
 rE (Int.ofNat 7) sub pl fi ct la ln lv da dn dv (false) :=
 xaa (q:=qNs [41,1,1,5,1,3,1,5,1,12,1,1,1,1,28,1,5,1,1,5,1,1,0,17,0,12,0,1,0,1,6,0,0,5,0,0,8,0,3,0,0]) (c:=(cnF::cnF::cnF::cnF::cnF::cnF::cnF::cnF::cnF::cnF::cnF::cnF::cnF::cnF::cnT::cnT::cnT::cnF::cnT::cnF::cnT::cnT::cnT::cnT::cnT::cnT::cnT::[])) (by kernel_rfl) ⟨h0,h0,h0,h0,h1,h2,h2,h2,h3,h4,h5,h5,h5,h5,h6,h6,h6,h5,h6,h5,h7,h7,h7,h7,h7,h7,h8,trivial⟩
theorem r7_fffffftft (h0:(!xae ct (Int.ofNat 0))=false) (h1:(!xae fi (Int.ofNat 0))=false) (h2:(!false == xak (Int.ofNat 0) (Int.ofNat ln))=false) (h3:(xak (Int.ofNat 16) (Int.ofNat ln))=false) (h4:(xak (Int.ofNat 0) (Int.ofNat dn))=false) (h5:(xbr (Int.ofNat 3) sub)=false) (h6:(xak (Int.ofNat 0) sub)=true) (h7:(xak (Int.ofNat 0) pl)=false) (h8:(okD xdd dv)=true) (h9:(AV.plainL dv)=true) (h10:(isD dv)=true) (h11:(dv.length.beq dn)=true) (h12:(dn.beq dn)=true) (h13:(dn.ble 1099511627776)=true) :
 rE (Int.ofNat 7) sub pl fi ct la ln lv da dn dv (true) :=
 xaa (q:=qNs [41,1,1,5,1,3,1,5,1,12,1,1,1,1,28,1,5,1,1,5,1,1,0,17,0,12,0,1,0,1,6,1,1,1,1,1,1,6,0,4,0,0,0,0,0,3,0,0,3,0]) (c:=(cnF::cnF::cnF::cnF::cnF::cnF::cnF::cnF::cnF::cnF::cnF::cnF::cnF::cnF::cnT::cnT::cnT::cnF::cnT::cnF::cnF::cnF::cnF::cnF::cnF::cnF::Cnd.code (ZLT.lsumS (xbz tys) ((108,0),ixL).snd).fst (ZLT.lsumS (xbz tys) ((108,0),ixL).snd).fst::cnT::cnT::cnT::cnT::cnT::cnT::cnT::cnT::cnT::[])) (by kernel_rfl) ⟨h0,h0,h0,h0,h1,h2,h2,h2,h3,h4,h5,h5,h5,h5,h6,h6,h6,h5,h6,h5,h7,h7,h7,h7,h7,h7,rfl,h8,h9,h9,h10,h11,h12,h13,h8,h9,trivial⟩
theorem r7_fffffftff (h0:(!xae ct (Int.ofNat 0))=false) (h1:(!xae fi (Int.ofNat 0))=false) (h2:(!false == xak (Int.ofNat 0) (Int.ofNat ln))=false) (h3:(xak (Int.ofNat 16) (Int.ofNat ln))=false) (h4:(xak (Int.ofNat 0) (Int.ofNat dn))=false) (h5:(xbr (Int.ofNat 3) sub)=false) (h6:(xak (Int.ofNat 0) sub)=true) (h7:(xak (Int.ofNat 0) pl)=false) (h8:(okD xdd dv)=false) (h9:(AV.plainL dv)=true) (h10:(isD dv)=true) (h11:(dv.length.beq dn)=true) (h12:(dn.beq dn)=true) (h13:(dn.ble 1099511627776)=true) (h14:(!okD xdd dv)=true) :
 rE (Int.ofNat 7) sub pl fi ct la ln lv da dn dv (!xbr (Int.ofNat 0) (Int.ofNat (xmf xdd dv))) :=
 xaa (q:=qNs [41,1,1,5,1,3,1,5,1,12,1,1,1,1,28,1,5,1,1,5,1,1,0,17,0,12,0,1,0,1,6,1,1,1,1,1,1,6,1,4,0,0,0,0,0,3,0,0,3,0]) (c:=(cnF::cnF::cnF::cnF::cnF::cnF::cnF::cnF::cnF::cnF::cnF::cnF::cnF::cnF::cnT::cnT::cnT::cnF::cnT::cnF::cnF::cnF::cnF::cnF::cnF::cnF::Cnd.code (ZLT.lsumS (xbz tys) ((108,0),ixL).snd).fst (ZLT.lsumS (xbz tys) ((108,0),ixL).snd).fst::cnF::cnT::cnT::cnT::cnT::cnT::cnT::cnT::cnT::[])) (by kernel_rfl) ⟨h0,h0,h0,h0,h1,h2,h2,h2,h3,h4,h5,h5,h5,h5,h6,h6,h6,h5,h6,h5,h7,h7,h7,h7,h7,h7,rfl,h8,h9,h9,h10,h11,h12,h13,h14,h9,trivial⟩
theorem r7_ffffffftt (h0:(!xae ct (Int.ofNat 0))=false) (h1:(!xae fi (Int.ofNat 0))=false) (h2:(!false == xak (Int.ofNat 0) (Int.ofNat ln))=false) (h3:(xak (Int.ofNat 16) (Int.ofNat ln))=false) (h4:(xak (Int.ofNat 0) (Int.ofNat dn))=false) (h5:(xbr (Int.ofNat 3) sub)=false) (h6:(xak (Int.ofNat 0) sub)=false) (h7:(xak (Int.ofNat 0) pl)=true) (h8:(!xae sub (Int.ofNat 0))=true) :
 rE (Int.ofNat 7) sub pl fi ct la ln lv da dn dv (false) :=
 xaa (q:=qNs [41,1,1,5,1,3,1,5,1,12,1,1,1,1,28,1,5,1,1,5,1,1,1,1,1,1,1,1,6,0,0,5,0,0,8,0,3,0,0]) (c:=(cnF::cnF::cnF::cnF::cnF::cnF::cnF::cnF::cnF::cnF::cnF::cnF::cnF::cnF::cnF::cnF::cnF::cnF::cnF::cnF::cnT::cnT::cnT::cnT::cnT::cnT::cnT::[])) (by kernel_rfl) ⟨h0,h0,h0,h0,h1,h2,h2,h2,h3,h4,h5,h5,h5,h5,h6,h6,h6,h5,h6,h5,h7,h7,h7,h7,h7,h7,h8,trivial⟩
theorem r7_fffffffft (h0:(!xae ct (Int.ofNat 0))=false) (h1:(!xae fi (Int.ofNat 0))=false) (h2:(!false == xak (Int.ofNat 0) (Int.ofNat ln))=false) (h3:(xak (Int.ofNat 16) (Int.ofNat ln))=false) (h4:(xak (Int.ofNat 0) (Int.ofNat dn))=false) (h5:(xbr (Int.ofNat 3) sub)=false) (h6:(xak (Int.ofNat 0) sub)=false) (h7:(xak (Int.ofNat 0) pl)=false) (h8:(okD xdd dv)=true) (h9:(AV.plainL dv)=true) (h10:(isD dv)=true) (h11:(dv.length.beq dn)=true) (h12:(dn.beq dn)=true) (h13:(dn.ble 1099511627776)=true) :
 rE (Int.ofNat 7) sub pl fi ct la ln lv da dn dv (true) :=
 xaa (q:=qNs [41,1,1,5,1,3,1,5,1,12,1,1,1,1,28,1,5,1,1,5,1,1,1,1,1,1,1,1,6,1,1,1,1,1,1,6,0,4,0,0,0,0,0,3,0,0,3,0]) (c:=(cnF::cnF::cnF::cnF::cnF::cnF::cnF::cnF::cnF::cnF::cnF::cnF::cnF::cnF::cnF::cnF::cnF::cnF::cnF::cnF::cnF::cnF::cnF::cnF::cnF::cnF::Cnd.code (ZLT.lsumS (xbz tys) ((108,0),ixL).snd).fst (ZLT.lsumS (xbz tys) ((108,0),ixL).snd).fst::cnT::cnT::cnT::cnT::cnT::cnT::cnT::cnT::cnT::[])) (by kernel_rfl) ⟨h0,h0,h0,h0,h1,h2,h2,h2,h3,h4,h5,h5,h5,h5,h6,h6,h6,h5,h6,h5,h7,h7,h7,h7,h7,h7,rfl,h8,h9,h9,h10,h11,h12,h13,h8,h9,trivial⟩
theorem r7_fffffffff (h0:(!xae ct (Int.ofNat 0))=false) (h1:(!xae fi (Int.ofNat 0))=false) (h2:(!false == xak (Int.ofNat 0) (Int.ofNat ln))=false) (h3:(xak (Int.ofNat 16) (Int.ofNat ln))=false) (h4:(xak (Int.ofNat 0) (Int.ofNat dn))=false) (h5:(xbr (Int.ofNat 3) sub)=false) (h6:(xak (Int.ofNat 0) sub)=false) (h7:(xak (Int.ofNat 0) pl)=false) (h8:(okD xdd dv)=false) (h9:(AV.plainL dv)=true) (h10:(isD dv)=true) (h11:(dv.length.beq dn)=true) (h12:(dn.beq dn)=true) (h13:(dn.ble 1099511627776)=true) (h14:(!okD xdd dv)=true) :
 rE (Int.ofNat 7) sub pl fi ct la ln lv da dn dv (!xbr (Int.ofNat 0) (Int.ofNat (xmf xdd dv))) :=
 xaa (q:=qNs [41,1,1,5,1,3,1,5,1,12,1,1,1,1,28,1,5,1,1,5,1,1,1,1,1,1,1,1,6,1,1,1,1,1,1,6,1,4,0,0,0,0,0,3,0,0,3,0]) (c:=(cnF::cnF::cnF::cnF::cnF::cnF::cnF::cnF::cnF::cnF::cnF::cnF::cnF::cnF::cnF::cnF::cnF::cnF::cnF::cnF::cnF::cnF::cnF::cnF::cnF::cnF::Cnd.code (ZLT.lsumS (xbz tys) ((108,0),ixL).snd).fst (ZLT.lsumS (xbz tys) ((108,0),ixL).snd).fst::cnF::cnT::cnT::cnT::cnT::cnT::cnT::cnT::cnT::[])) (by kernel_rfl) ⟨h0,h0,h0,h0,h1,h2,h2,h2,h3,h4,h5,h5,h5,h5,h6,h6,h6,h5,h6,h5,h7,h7,h7,h7,h7,h7,rfl,h8,h9,h9,h10,h11,h12,h13,h14,h9,trivial⟩
theorem xtq (h0:(!xae ct (Int.ofNat 0))=false) (h1:(!xae fi (Int.ofNat 0))=false) (h2:(!false == xak (Int.ofNat 0) (Int.ofNat ln))=false) (h3:(xak (Int.ofNat 16) (Int.ofNat ln))=false) (h4:(xak (Int.ofNat 0) (Int.ofNat dn))=false) (h5:(xbr (Int.ofNat 3) sub)=false) (h6:(xak (Int.ofNat 0) sub)=true) (h7:(xak (Int.ofNat 0) pl)=true) (h8:(!xae sub (Int.ofNat 0))=false) (h9:(okD xdd dv)=true) (h10:(AV.plainL dv)=true) (h11:(isD dv)=true) (h12:(dv.length.beq dn)=true) (h13:(dn.beq dn)=true) (h14:(dn.ble 1099511627776)=true) :
 rE (Int.ofNat 7) sub pl fi ct la ln lv da dn dv (true) :=
 xaa (q:=qNs [41,1,1,5,1,3,1,5,1,12,1,1,1,1,28,1,5,1,1,5,1,1,0,17,0,12,0,1,0,1,6,0,0,5,0,0,8,0,3,0,1,5,0,4,0,0,0,0,0,3,0,0,3,0]) (c:=(cnF::cnF::cnF::cnF::cnF::cnF::cnF::cnF::cnF::cnF::cnF::cnF::cnF::cnF::cnT::cnT::cnT::cnF::cnT::cnF::cnT::cnT::cnT::cnT::cnT::cnT::cnF::Cnd.code (ZLT.lsumS (xbz tys) ((108,0),ixL).snd).fst (ZLT.lsumS (xbz tys) ((108,0),ixL).snd).fst::cnT::cnT::cnT::cnT::cnT::cnT::cnT::cnT::cnT::[])) (by kernel_rfl) ⟨h0,h0,h0,h0,h1,h2,h2,h2,h3,h4,h5,h5,h5,h5,h6,h6,h6,h5,h6,h5,h7,h7,h7,h7,h7,h7,h8,rfl,h9,h10,h10,h11,h12,h13,h14,h9,h10,trivial⟩
theorem xsr (h0:(!xae ct (Int.ofNat 0))=false) (h1:(!xae fi (Int.ofNat 0))=false) (h2:(!false == xak (Int.ofNat 0) (Int.ofNat ln))=false) (h3:(xak (Int.ofNat 16) (Int.ofNat ln))=false) (h4:(xak (Int.ofNat 0) (Int.ofNat dn))=false) (h5:(xbr (Int.ofNat 3) sub)=false) (h6:(xak (Int.ofNat 0) sub)=true) (h7:(xak (Int.ofNat 0) pl)=true) (h8:(!xae sub (Int.ofNat 0))=false) (h9:(okD xdd dv)=false) (h10:(AV.plainL dv)=true) (h11:(isD dv)=true) (h12:(dv.length.beq dn)=true) (h13:(dn.beq dn)=true) (h14:(dn.ble 1099511627776)=true) (h15:(!okD xdd dv)=true) :
 rE (Int.ofNat 7) sub pl fi ct la ln lv da dn dv (!xbr (Int.ofNat 0) (Int.ofNat (xmf xdd dv))) :=
 xaa (q:=qNs [41,1,1,5,1,3,1,5,1,12,1,1,1,1,28,1,5,1,1,5,1,1,0,17,0,12,0,1,0,1,6,0,0,5,0,0,8,0,3,0,1,5,1,4,0,0,0,0,0,3,0,0,3,0]) (c:=(cnF::cnF::cnF::cnF::cnF::cnF::cnF::cnF::cnF::cnF::cnF::cnF::cnF::cnF::cnT::cnT::cnT::cnF::cnT::cnF::cnT::cnT::cnT::cnT::cnT::cnT::cnF::Cnd.code (ZLT.lsumS (xbz tys) ((108,0),ixL).snd).fst (ZLT.lsumS (xbz tys) ((108,0),ixL).snd).fst::cnF::cnT::cnT::cnT::cnT::cnT::cnT::cnT::cnT::[])) (by kernel_rfl) ⟨h0,h0,h0,h0,h1,h2,h2,h2,h3,h4,h5,h5,h5,h5,h6,h6,h6,h5,h6,h5,h7,h7,h7,h7,h7,h7,h8,rfl,h9,h10,h10,h11,h12,h13,h14,h15,h10,trivial⟩
theorem xtp (h0:(!xae ct (Int.ofNat 0))=false) (h1:(!xae fi (Int.ofNat 0))=false) (h2:(!false == xak (Int.ofNat 0) (Int.ofNat ln))=false) (h3:(xak (Int.ofNat 16) (Int.ofNat ln))=false) (h4:(xak (Int.ofNat 0) (Int.ofNat dn))=false) (h5:(xbr (Int.ofNat 3) sub)=false) (h6:(xak (Int.ofNat 0) sub)=false) (h7:(xak (Int.ofNat 0) pl)=true) (h8:(!xae sub (Int.ofNat 0))=false) (h9:(okD xdd dv)=true) (h10:(AV.plainL dv)=true) (h11:(isD dv)=true) (h12:(dv.length.beq dn)=true) (h13:(dn.beq dn)=true) (h14:(dn.ble 1099511627776)=true) :
 rE (Int.ofNat 7) sub pl fi ct la ln lv da dn dv (true) :=
 xaa (q:=qNs [41,1,1,5,1,3,1,5,1,12,1,1,1,1,28,1,5,1,1,5,1,1,1,1,1,1,1,1,6,0,0,5,0,0,8,0,3,0,1,5,0,4,0,0,0,0,0,3,0,0,3,0]) (c:=(cnF::cnF::cnF::cnF::cnF::cnF::cnF::cnF::cnF::cnF::cnF::cnF::cnF::cnF::cnF::cnF::cnF::cnF::cnF::cnF::cnT::cnT::cnT::cnT::cnT::cnT::cnF::Cnd.code (ZLT.lsumS (xbz tys) ((108,0),ixL).snd).fst (ZLT.lsumS (xbz tys) ((108,0),ixL).snd).fst::cnT::cnT::cnT::cnT::cnT::cnT::cnT::cnT::cnT::[])) (by kernel_rfl) ⟨h0,h0,h0,h0,h1,h2,h2,h2,h3,h4,h5,h5,h5,h5,h6,h6,h6,h5,h6,h5,h7,h7,h7,h7,h7,h7,h8,rfl,h9,h10,h10,h11,h12,h13,h14,h9,h10,trivial⟩
theorem xto (h0:(!xae ct (Int.ofNat 0))=false) (h1:(!xae fi (Int.ofNat 0))=false) (h2:(!false == xak (Int.ofNat 0) (Int.ofNat ln))=false) (h3:(xak (Int.ofNat 16) (Int.ofNat ln))=false) (h4:(xak (Int.ofNat 0) (Int.ofNat dn))=false) (h5:(xbr (Int.ofNat 3) sub)=false) (h6:(xak (Int.ofNat 0) sub)=false) (h7:(xak (Int.ofNat 0) pl)=true) (h8:(!xae sub (Int.ofNat 0))=false) (h9:(okD xdd dv)=false) (h10:(AV.plainL dv)=true) (h11:(isD dv)=true) (h12:(dv.length.beq dn)=true) (h13:(dn.beq dn)=true) (h14:(dn.ble 1099511627776)=true) (h15:(!okD xdd dv)=true) :
 rE (Int.ofNat 7) sub pl fi ct la ln lv da dn dv (!xbr (Int.ofNat 0) (Int.ofNat (xmf xdd dv))) :=
 xaa (q:=qNs [41,1,1,5,1,3,1,5,1,12,1,1,1,1,28,1,5,1,1,5,1,1,1,1,1,1,1,1,6,0,0,5,0,0,8,0,3,0,1,5,1,4,0,0,0,0,0,3,0,0,3,0]) (c:=(cnF::cnF::cnF::cnF::cnF::cnF::cnF::cnF::cnF::cnF::cnF::cnF::cnF::cnF::cnF::cnF::cnF::cnF::cnF::cnF::cnT::cnT::cnT::cnT::cnT::cnT::cnF::Cnd.code (ZLT.lsumS (xbz tys) ((108,0),ixL).snd).fst (ZLT.lsumS (xbz tys) ((108,0),ixL).snd).fst::cnF::cnT::cnT::cnT::cnT::cnT::cnT::cnT::cnT::[])) (by kernel_rfl) ⟨h0,h0,h0,h0,h1,h2,h2,h2,h3,h4,h5,h5,h5,h5,h6,h6,h6,h5,h6,h5,h7,h7,h7,h7,h7,h7,h8,rfl,h9,h10,h10,h11,h12,h13,h14,h15,h10,trivial⟩
theorem r8_t (op:Int) (h0:(xak op (Int.ofNat 1))=true) :
 rE op sub pl fi ct la ln lv da dn dv (false) :=
 xaa (q:=qNs [8,0,0,0,0,3]) (c:=(cnT::cnT::cnT::cnT::[])) (by kernel_rfl) ⟨h0,h0,h0,h0,trivial⟩
theorem r8_ft (op:Int) (h0:(xak op (Int.ofNat 1))=false) (h1:(xbr (Int.ofNat 8) op)=true) :
 rE op sub pl fi ct la ln lv da dn dv (false) :=
 xaa (q:=qNs [8,1,1,5,1,1,0]) (c:=(cnF::cnF::cnF::cnF::cnT::[])) (by kernel_rfl) ⟨h0,h0,h0,h0,h1,trivial⟩
theorem right_1 (s0:0 ≤ sub) (p0:0 ≤ pl) (wc:xaf IntKind.i64 ct=ct) (k1:isD dv=true) (k2:(dv.length.beq dn)=true) (k3:(dn.ble 1099511627776)=true) (k4:AV.plainL lv=true) (k5:AV.plainL dv=true):rG (Int.ofNat 1) sub pl fi ct la ln lv da dn dv:=by
 cases q0:(xbr (Int.ofNat 1) (xaf IntKind.i64 ct)) with
 | true =>
  cases q1:(!xbr (xaf IntKind.i64 ct) (Int.ofNat 16)) with
  | true =>
   exact rNo (r1_tt q0 q1) (by simp only [SL] at *;unfold xau;omega)
  | false =>
   cases q2:(xak (Int.ofNat 0) (Int.ofNat ln)) with
   | true =>
    exact rNo (r1_tft q0 q1 q2) (by simp only [SL] at *;unfold xau;omega)
   | false =>
    cases q3:(!false == xak (Int.ofNat 0) (Int.ofNat ln)) with
    | true =>
     exact rNo (r1_tfft q0 q1 q2 q3) (by simp only [SL] at *;unfold xau;omega)
    | false =>
     cases q4:(xak (Int.ofNat 16) (Int.ofNat ln)) with
     | true =>
      exact rNo (r1_tffft q0 q1 q2 q3 q4) (by simp only [SL] at *;unfold xau;omega)
     | false =>
      cases q5:(xak (Int.ofNat 0) (Int.ofNat dn)) with
      | true =>
       exact rNo (r1_tfffft q0 q1 q2 q3 q4 q5) (by simp only [SL] at *;unfold xau;omega)
      | false =>
       cases q6:(xbr (Int.ofNat 3) sub) with
       | true =>
        exact rNo (r1_tffffft q0 q1 q2 q3 q4 q5 q6) (by simp only [SL] at *;unfold xau;omega)
       | false =>
        cases q7:(xak (Int.ofNat 0) sub) with
        | true =>
         exact rNo (r1_tfffffft q0 q1 q2 q3 q4 q5 q6 q7) (by simp only [SL] at *;unfold xau;omega)
        | false =>
         cases q8:(xak (Int.ofNat 0) pl) with
         | true =>
          exact rNo (r1_tffffffft q0 q1 q2 q3 q4 q5 q6 q7 q8) (by simp only [SL] at *;unfold xau;omega)
         | false =>
          cases q9:(okD xdd dv) with
          | true =>
           exact rSo (b:=true) (xsn q0 q1 q2 q3 q4 q5 q6 q7 q8 q9 k5 k1 k2 (Nat.beq_refl _) k3) (by clear q9;simp only [SL] at *;unfold xau;omega) q9
          | false =>
           exact rSo (b:=false) (xsf q0 q1 q2 q3 q4 q5 q6 q7 q8 q9 k5 k1 k2 (Nat.beq_refl _) k3 (by rw [q9];rfl)) (by clear q9;simp only [SL] at *;unfold xau;omega) q9
 | false =>
  exact rNo (r1_f q0) (by simp only [SL] at *;unfold xau;omega)
theorem right_2 (s0:0 ≤ sub) (p0:0 ≤ pl) (wc:xaf IntKind.i64 ct=ct) (k1:isD dv=true) (k2:(dv.length.beq dn)=true) (k3:(dn.ble 1099511627776)=true) (k4:AV.plainL lv=true) (k5:AV.plainL dv=true):rG (Int.ofNat 2) sub pl fi ct la ln lv da dn dv:=by
 cases q0:(!xae ct (Int.ofNat 0)) with
 | true =>
  exact rNo (r2_t q0) (by simp only [SL] at *;unfold xau;omega)
 | false =>
  cases q1:(!xae fi (Int.ofNat 0)) with
  | true =>
   exact rNo (r2_ft q0 q1) (by simp only [SL] at *;unfold xau;omega)
  | false =>
   cases q2:(!true == xak (Int.ofNat 0) (Int.ofNat ln)) with
   | true =>
    exact rNo (r2_fft q0 q1 q2) (by simp only [SL] at *;unfold xau;omega)
   | false =>
    cases q3:(xak (Int.ofNat 16) (Int.ofNat ln)) with
    | true =>
     exact rNo (r2_ffft q0 q1 q2 q3) (by simp only [SL] at *;unfold xau;omega)
    | false =>
     cases q4:(!xae (Int.ofNat dn) (Int.ofNat ln)) with
     | true =>
      exact rNo (r2_fffft q0 q1 q2 q3 q4) (by simp only [SL] at *;unfold xau;omega)
     | false =>
      cases q5:(xbr (Int.ofNat 3) sub) with
      | true =>
       exact rNo (r2_ffffft q0 q1 q2 q3 q4 q5) (by simp only [SL] at *;unfold xau;omega)
      | false =>
       cases q6:(xak (Int.ofNat 0) sub) with
       | true =>
        exact rNo (r2_fffffft q0 q1 q2 q3 q4 q5 q6) (by simp only [SL] at *;unfold xau;omega)
       | false =>
        cases q7:(xak (Int.ofNat 0) pl) with
        | true =>
         exact rNo (r2_ffffffft q0 q1 q2 q3 q4 q5 q6 q7) (by simp only [SL] at *;unfold xau;omega)
        | false =>
         cases q8:(okD xdd dv) with
         | true =>
          exact rSo (b:=true) (r2_fffffffft q0 q1 q2 q3 q4 q5 q6 q7 q8 k5 k1 k2 (Nat.beq_refl _) k3) (by clear q8;simp only [SL] at *;unfold xau;omega) q8
         | false =>
          exact rSo (b:=false) (r2_fffffffff q0 q1 q2 q3 q4 q5 q6 q7 q8 k5 k1 k2 (Nat.beq_refl _) k3 (by rw [q8];rfl)) (by clear q8;simp only [SL] at *;unfold xau;omega) q8
theorem right_3 (s0:0 ≤ sub) (p0:0 ≤ pl) (wc:xaf IntKind.i64 ct=ct) (k1:isD dv=true) (k2:(dv.length.beq dn)=true) (k3:(dn.ble 1099511627776)=true) (k4:AV.plainL lv=true) (k5:AV.plainL dv=true):rG (Int.ofNat 3) sub pl fi ct la ln lv da dn dv:=by
 cases q0:(!xae ct (Int.ofNat 0)) with
 | true =>
  exact rNo (r3_t q0) (by simp only [SL] at *;unfold xau;omega)
 | false =>
  cases q1:(!xae fi (Int.ofNat 0)) with
  | true =>
   exact rNo (r3_ft q0 q1) (by simp only [SL] at *;unfold xau;omega)
  | false =>
   cases q2:(!true == xak (Int.ofNat 0) (Int.ofNat ln)) with
   | true =>
    exact rNo (r3_fft q0 q1 q2) (by simp only [SL] at *;unfold xau;omega)
   | false =>
    cases q3:(xak (Int.ofNat 16) (Int.ofNat ln)) with
    | true =>
     exact rNo (r3_ffft q0 q1 q2 q3) (by simp only [SL] at *;unfold xau;omega)
    | false =>
     cases q4:(xak (Int.ofNat 0) (Int.ofNat dn)) with
     | true =>
      exact rNo (r3_fffft q0 q1 q2 q3 q4) (by simp only [SL] at *;unfold xau;omega)
     | false =>
      cases q5:(xbr (Int.ofNat 3) sub) with
      | true =>
       exact rNo (r3_ffffft q0 q1 q2 q3 q4 q5) (by simp only [SL] at *;unfold xau;omega)
      | false =>
       cases q6:(xak (Int.ofNat 0) sub) with
       | true =>
        exact rNo (r3_fffffft q0 q1 q2 q3 q4 q5 q6) (by simp only [SL] at *;unfold xau;omega)
       | false =>
        cases q7:(xak (Int.ofNat 0) pl) with
        | true =>
         exact rNo (r3_ffffffft q0 q1 q2 q3 q4 q5 q6 q7) (by simp only [SL] at *;unfold xau;omega)
        | false =>
         cases q8:(okD xdd dv) with
         | true =>
          exact rSo (b:=true) (r3_fffffffft q0 q1 q2 q3 q4 q5 q6 q7 q8 k5 k1 k2 (Nat.beq_refl _) k3) (by clear q8;simp only [SL] at *;unfold xau;omega) q8
         | false =>
          exact rSo (b:=false) (r3_fffffffff q0 q1 q2 q3 q4 q5 q6 q7 q8 k5 k1 k2 (Nat.beq_refl _) k3 (by rw [q8];rfl)) (by clear q8;simp only [SL] at *;unfold xau;omega) q8
theorem right_4 (s0:0 ≤ sub) (p0:0 ≤ pl) (wc:xaf IntKind.i64 ct=ct) (k1:isD dv=true) (k2:(dv.length.beq dn)=true) (k3:(dn.ble 1099511627776)=true) (k4:AV.plainL lv=true) (k5:AV.plainL dv=true):rG (Int.ofNat 4) sub pl fi ct la ln lv da dn dv:=by
 cases q0:(!xae ct (Int.ofNat 0)) with
 | true =>
  exact rNo (r4_t q0) (by simp only [SL] at *;unfold xau;omega)
 | false =>
  cases q1:(!xae fi (Int.ofNat 0)) with
  | true =>
   exact rNo (r4_ft q0 q1) (by simp only [SL] at *;unfold xau;omega)
  | false =>
   cases q2:(!false == xak (Int.ofNat 0) (Int.ofNat ln)) with
   | true =>
    exact rNo (r4_fft q0 q1 q2) (by simp only [SL] at *;unfold xau;omega)
   | false =>
    cases q3:(xak (Int.ofNat 16) (Int.ofNat ln)) with
    | true =>
     exact rNo (r4_ffft q0 q1 q2 q3) (by simp only [SL] at *;unfold xau;omega)
    | false =>
     cases q4:(xak (Int.ofNat 0) (Int.ofNat dn)) with
     | true =>
      exact rNo (r4_fffft q0 q1 q2 q3 q4) (by simp only [SL] at *;unfold xau;omega)
     | false =>
      cases q5:(xbr (Int.ofNat 3) sub) with
      | true =>
       exact rNo (r4_ffffft q0 q1 q2 q3 q4 q5) (by simp only [SL] at *;unfold xau;omega)
      | false =>
       cases q6:(xak (Int.ofNat 0) sub) with
       | true =>
        exact rNo (r4_fffffft q0 q1 q2 q3 q4 q5 q6) (by simp only [SL] at *;unfold xau;omega)
       | false =>
        cases q7:(xak (Int.ofNat 0) pl) with
        | true =>
         exact rNo (r4_ffffffft q0 q1 q2 q3 q4 q5 q6 q7) (by simp only [SL] at *;unfold xau;omega)
        | false =>
         cases q8:(okD xdd dv) with
         | true =>
          exact rSo (b:=true) (r4_fffffffft q0 q1 q2 q3 q4 q5 q6 q7 q8 k5 k1 k2 (Nat.beq_refl _) k3) (by clear q8;simp only [SL] at *;unfold xau;omega) q8
         | false =>
          exact rSo (b:=false) (r4_fffffffff q0 q1 q2 q3 q4 q5 q6 q7 q8 k5 k1 k2 (Nat.beq_refl _) k3 (by rw [q8];rfl)) (by clear q8;simp only [SL] at *;unfold xau;omega) q8
theorem right_5 (s0:0 ≤ sub) (p0:0 ≤ pl) (wc:xaf IntKind.i64 ct=ct) (k1:isD dv=true) (k2:(dv.length.beq dn)=true) (k3:(dn.ble 1099511627776)=true) (k4:AV.plainL lv=true) (k5:AV.plainL dv=true):rG (Int.ofNat 5) sub pl fi ct la ln lv da dn dv:=by
 cases q0:(!xae ct (Int.ofNat 0)) with
 | true =>
  exact rNo (r5_t q0) (by simp only [SL] at *;unfold xau;omega)
 | false =>
  cases q1:(!xae fi (Int.ofNat 0)) with
  | true =>
   exact rNo (r5_ft q0 q1) (by simp only [SL] at *;unfold xau;omega)
  | false =>
   cases q2:(!false == xak (Int.ofNat 0) (Int.ofNat ln)) with
   | true =>
    exact rNo (r5_fft q0 q1 q2) (by simp only [SL] at *;unfold xau;omega)
   | false =>
    cases q3:(xak (Int.ofNat 16) (Int.ofNat ln)) with
    | true =>
     exact rNo (r5_ffft q0 q1 q2 q3) (by simp only [SL] at *;unfold xau;omega)
    | false =>
     cases q4:(xak (Int.ofNat 0) (Int.ofNat dn)) with
     | true =>
      exact rNo (r5_fffft q0 q1 q2 q3 q4) (by simp only [SL] at *;unfold xau;omega)
     | false =>
      cases q5:(xbr (Int.ofNat 3) sub) with
      | true =>
       exact rNo (r5_ffffft q0 q1 q2 q3 q4 q5) (by simp only [SL] at *;unfold xau;omega)
      | false =>
       cases q6:(xak (Int.ofNat 0) sub) with
       | true =>
        cases q7:(xak (Int.ofNat 0) pl) with
        | true =>
         exact rNo (r5_fffffftt q0 q1 q2 q3 q4 q5 q6 q7) (by simp only [SL] at *;unfold xau;omega)
        | false =>
         cases q8:(okD xdd dv) with
         | true =>
          exact rSo (b:=true) (r5_fffffftft q0 q1 q2 q3 q4 q5 q6 q7 q8 k5 k1 k2 (Nat.beq_refl _) k3) (by clear q8;simp only [SL] at *;unfold xau;omega) q8
         | false =>
          exact rSo (b:=false) (r5_fffffftff q0 q1 q2 q3 q4 q5 q6 q7 q8 k5 k1 k2 (Nat.beq_refl _) k3 (by rw [q8];rfl)) (by clear q8;simp only [SL] at *;unfold xau;omega) q8
       | false =>
        cases q7:(xak (Int.ofNat 0) pl) with
        | true =>
         exact rNo (r5_ffffffft q0 q1 q2 q3 q4 q5 q6 q7) (by simp only [SL] at *;unfold xau;omega)
        | false =>
         cases q8:(okD xdd dv) with
         | true =>
          exact rSo (b:=true) (r5_fffffffft q0 q1 q2 q3 q4 q5 q6 q7 q8 k5 k1 k2 (Nat.beq_refl _) k3) (by clear q8;simp only [SL] at *;unfold xau;omega) q8
         | false =>
          exact rSo (b:=false) (r5_fffffffff q0 q1 q2 q3 q4 q5 q6 q7 q8 k5 k1 k2 (Nat.beq_refl _) k3 (by rw [q8];rfl)) (by clear q8;simp only [SL] at *;unfold xau;omega) q8
theorem right_6 (s0:0 ≤ sub) (p0:0 ≤ pl) (wc:xaf IntKind.i64 ct=ct) (k1:isD dv=true) (k2:(dv.length.beq dn)=true) (k3:(dn.ble 1099511627776)=true) (k4:AV.plainL lv=true) (k5:AV.plainL dv=true):rG (Int.ofNat 6) sub pl fi ct la ln lv da dn dv:=by
 cases q0:(!xae ct (Int.ofNat 0)) with
 | true =>
  exact rNo (r6_t q0) (by simp only [SL] at *;unfold xau;omega)
 | false =>
  cases q1:(!xae fi (Int.ofNat 0)) with
  | true =>
   exact rNo (r6_ft q0 q1) (by simp only [SL] at *;unfold xau;omega)
  | false =>
   cases q2:(!false == xak (Int.ofNat 0) (Int.ofNat ln)) with
   | true =>
    exact rNo (r6_fft q0 q1 q2) (by simp only [SL] at *;unfold xau;omega)
   | false =>
    cases q3:(xak (Int.ofNat 16) (Int.ofNat ln)) with
    | true =>
     exact rNo (r6_ffft q0 q1 q2 q3) (by simp only [SL] at *;unfold xau;omega)
    | false =>
     cases q4:(xak (Int.ofNat 0) (Int.ofNat dn)) with
     | true =>
      exact rNo (r6_fffft q0 q1 q2 q3 q4) (by simp only [SL] at *;unfold xau;omega)
     | false =>
      cases q5:(xbr (Int.ofNat 3) sub) with
      | true =>
       exact rNo (r6_ffffft q0 q1 q2 q3 q4 q5) (by simp only [SL] at *;unfold xau;omega)
      | false =>
       cases q6:(xak (Int.ofNat 0) sub) with
       | true =>
        cases q7:(xak (Int.ofNat 0) pl) with
        | true =>
         exact rNo (r6_fffffftt q0 q1 q2 q3 q4 q5 q6 q7) (by simp only [SL] at *;unfold xau;omega)
        | false =>
         cases q8:(okD xdd dv) with
         | true =>
          exact rSo (b:=true) (r6_fffffftft q0 q1 q2 q3 q4 q5 q6 q7 q8 k5 k1 k2 (Nat.beq_refl _) k3) (by clear q8;simp only [SL] at *;unfold xau;omega) q8
         | false =>
          exact rSo (b:=false) (r6_fffffftff q0 q1 q2 q3 q4 q5 q6 q7 q8 k5 k1 k2 (Nat.beq_refl _) k3 (by rw [q8];rfl)) (by clear q8;simp only [SL] at *;unfold xau;omega) q8
       | false =>
        cases q7:(xak (Int.ofNat 0) pl) with
        | true =>
         exact rNo (r6_ffffffft q0 q1 q2 q3 q4 q5 q6 q7) (by simp only [SL] at *;unfold xau;omega)
        | false =>
         cases q8:(okD xdd dv) with
         | true =>
          exact rSo (b:=true) (r6_fffffffft q0 q1 q2 q3 q4 q5 q6 q7 q8 k5 k1 k2 (Nat.beq_refl _) k3) (by clear q8;simp only [SL] at *;unfold xau;omega) q8
         | false =>
          exact rSo (b:=false) (r6_fffffffff q0 q1 q2 q3 q4 q5 q6 q7 q8 k5 k1 k2 (Nat.beq_refl _) k3 (by rw [q8];rfl)) (by clear q8;simp only [SL] at *;unfold xau;omega) q8
theorem right_7 (s0:0 ≤ sub) (p0:0 ≤ pl) (wc:xaf IntKind.i64 ct=ct) (k1:isD dv=true) (k2:(dv.length.beq dn)=true) (k3:(dn.ble 1099511627776)=true) (k4:AV.plainL lv=true) (k5:AV.plainL dv=true):rG (Int.ofNat 7) sub pl fi ct la ln lv da dn dv:=by
 cases q0:(!xae ct (Int.ofNat 0)) with
 | true =>
  exact rNo (r7_t q0) (by simp only [SL] at *;unfold xau;omega)
 | false =>
  cases q1:(!xae fi (Int.ofNat 0)) with
  | true =>
   exact rNo (r7_ft q0 q1) (by simp only [SL] at *;unfold xau;omega)
  | false =>
   cases q2:(!false == xak (Int.ofNat 0) (Int.ofNat ln)) with
   | true =>
    exact rNo (r7_fft q0 q1 q2) (by simp only [SL] at *;unfold xau;omega)
   | false =>
    cases q3:(xak (Int.ofNat 16) (Int.ofNat ln)) with
    | true =>
     exact rNo (r7_ffft q0 q1 q2 q3) (by simp only [SL] at *;unfold xau;omega)
    | false =>
     cases q4:(xak (Int.ofNat 0) (Int.ofNat dn)) with
     | true =>
      exact rNo (r7_fffft q0 q1 q2 q3 q4) (by simp only [SL] at *;unfold xau;omega)
     | false =>
      cases q5:(xbr (Int.ofNat 3) sub) with
      | true =>
       exact rNo (r7_ffffft q0 q1 q2 q3 q4 q5) (by simp only [SL] at *;unfold xau;omega)
      | false =>
       cases q6:(xak (Int.ofNat 0) sub) with
       | true =>
        cases q7:(xak (Int.ofNat 0) pl) with
        | true =>
         cases q8:(!xae sub (Int.ofNat 0)) with
         | true =>
          exact rNo (r7_ffffffttt q0 q1 q2 q3 q4 q5 q6 q7 q8) (by simp only [SL] at *;unfold xau;omega)
         | false =>
          cases q9:(okD xdd dv) with
          | true =>
           exact rSo (b:=true) (xtq q0 q1 q2 q3 q4 q5 q6 q7 q8 q9 k5 k1 k2 (Nat.beq_refl _) k3) (by clear q9;simp only [SL] at *;unfold xau;omega) q9
          | false =>
           exact rSo (b:=false) (xsr q0 q1 q2 q3 q4 q5 q6 q7 q8 q9 k5 k1 k2 (Nat.beq_refl _) k3 (by rw [q9];rfl)) (by clear q9;simp only [SL] at *;unfold xau;omega) q9
        | false =>
         cases q8:(okD xdd dv) with
         | true =>
          exact rSo (b:=true) (r7_fffffftft q0 q1 q2 q3 q4 q5 q6 q7 q8 k5 k1 k2 (Nat.beq_refl _) k3) (by clear q8;simp only [SL] at *;unfold xau;omega) q8
         | false =>
          exact rSo (b:=false) (r7_fffffftff q0 q1 q2 q3 q4 q5 q6 q7 q8 k5 k1 k2 (Nat.beq_refl _) k3 (by rw [q8];rfl)) (by clear q8;simp only [SL] at *;unfold xau;omega) q8
       | false =>
        cases q7:(xak (Int.ofNat 0) pl) with
        | true =>
         cases q8:(!xae sub (Int.ofNat 0)) with
         | true =>
          exact rNo (r7_ffffffftt q0 q1 q2 q3 q4 q5 q6 q7 q8) (by simp only [SL] at *;unfold xau;omega)
         | false =>
          cases q9:(okD xdd dv) with
          | true =>
           exact rSo (b:=true) (xtp q0 q1 q2 q3 q4 q5 q6 q7 q8 q9 k5 k1 k2 (Nat.beq_refl _) k3) (by clear q9;simp only [SL] at *;unfold xau;omega) q9
          | false =>
           exact rSo (b:=false) (xto q0 q1 q2 q3 q4 q5 q6 q7 q8 q9 k5 k1 k2 (Nat.beq_refl _) k3 (by rw [q9];rfl)) (by clear q9;simp only [SL] at *;unfold xau;omega) q9
        | false =>
         cases q8:(okD xdd dv) with
         | true =>
          exact rSo (b:=true) (r7_fffffffft q0 q1 q2 q3 q4 q5 q6 q7 q8 k5 k1 k2 (Nat.beq_refl _) k3) (by clear q8;simp only [SL] at *;unfold xau;omega) q8
         | false =>
          exact rSo (b:=false) (r7_fffffffff q0 q1 q2 q3 q4 q5 q6 q7 q8 k5 k1 k2 (Nat.beq_refl _) k3 (by rw [q8];rfl)) (by clear q8;simp only [SL] at *;unfold xau;omega) q8
end
def rightR:xcf:=xcf.pl true fun us=>match us with
 | [.agg [.int .u8 op, .int .u8 sub, .int .u8 pl, .int .u32 fi, .int .u8 ct, .fsl la ln lv, .fsl da dn dv]]=>some ([xbr (Int.ofNat 0) sub,xbr (Int.ofNat 0) pl,xbr (Int.ofNat 0) ct,xbr ct (Int.ofNat 255),isD dv,Nat.beq dv.length dn,Nat.ble dn 1099511627776,AV.plainL lv], .bool (kept (xbi op sub pl fi ct ln dn dv)))
 | _=>none
theorem xol:xcf.Sound Try.prog tys 95 rightR:=by
 refine xcf.soundZ (cxZ xbd) all10a (xcf.pl_ok fun us q v hm hc=>?_)
 split at hm
 · rename_i op sub pl fi ct la ln lv da dn dv
   injection hm with hm;injection hm with e1 e2;subst e1;subst e2
   simp only [xah] at hc
   obtain ⟨c1,c2,c3,c4,c5,c6,c7,c8,_⟩:=hc
   have c1:=of_decide_eq_true ((xax _ _).symm.trans c1)
   have c2:=of_decide_eq_true ((xax _ _).symm.trans c2)
   have c3:=of_decide_eq_true ((xax _ _).symm.trans c3)
   have c4:=of_decide_eq_true ((xax _ _).symm.trans c4)
   have wc:xaf IntKind.i64 ct=ct:=by
    obtain ⟨n,rfl⟩:∃ n:Nat,ct=(n:Int):=⟨ct.toNat,by simp only [Int.ofNat_eq_natCast] at c3;omega⟩
    exact xbe .i64 n (by show n < 9223372036854775808;simp only [Int.ofNat_eq_natCast] at c4;omega)
   have c9:AV.plainL dv=true:=by obtain ⟨l,rfl⟩:=xgk.1 c5;exact xbv l
   simp only [Int.ofNat_eq_natCast] at c1 c2
   rw [xab]
   refine ⟨rfl,60,?_⟩
   cases h1:xak (AV.int IntKind.u8 op).intOf (Int.ofNat 1) with
   | true =>
    obtain ⟨h',h,_⟩:=r8_t (sub:=sub) (pl:=pl) (fi:=fi) (ct:=ct) (la:=la) (ln:=ln) (lv:=lv) (da:=da) (dn:=dn) (dv:=dv) op h1
    simp only [AV.intOf,xaz,xat,xax,beq_iff_eq,beq_eq_false_iff_ne,ne_eq,decide_eq_true_eq,decide_eq_false_iff_not,Bool.not_eq_true',Bool.not_eq_false',Bool.not_true,Bool.not_false,Bool.true_beq,Bool.false_beq,Bool.not_not,Int.ofNat_eq_natCast] at h1
    rw [xpm (by unfold xau;omega)];exact ⟨h',h⟩
   | false =>
   cases h2:xbr (Int.ofNat 8) (AV.int IntKind.u8 op).intOf with
   | true =>
    obtain ⟨h',h,_⟩:=r8_ft (sub:=sub) (pl:=pl) (fi:=fi) (ct:=ct) (la:=la) (ln:=ln) (lv:=lv) (da:=da) (dn:=dn) (dv:=dv) op h1 h2
    simp only [AV.intOf,xaz,xat,xax,beq_iff_eq,beq_eq_false_iff_ne,ne_eq,decide_eq_true_eq,decide_eq_false_iff_not,Bool.not_eq_true',Bool.not_eq_false',Bool.not_true,Bool.not_false,Bool.true_beq,Bool.false_beq,Bool.not_not,Int.ofNat_eq_natCast] at h1 h2
    rw [xpm (by unfold xau;omega)];exact ⟨h',h⟩
   | false =>
    simp only [AV.intOf,xaz,xat,xax,beq_iff_eq,beq_eq_false_iff_ne,ne_eq,decide_eq_true_eq,decide_eq_false_iff_not,Bool.not_eq_true',Bool.not_eq_false',Bool.not_true,Bool.not_false,Bool.true_beq,Bool.false_beq,Bool.not_not,Int.ofNat_eq_natCast] at h1 h2
    have h3:op=Int.ofNat 1 ∨ op=Int.ofNat 2 ∨ op=Int.ofNat 3 ∨ op=Int.ofNat 4 ∨ op=Int.ofNat 5 ∨ op=Int.ofNat 6 ∨ op=Int.ofNat 7:=by simp only [Int.ofNat_eq_natCast];omega
    rcases h3 with rfl | rfl | rfl | rfl | rfl | rfl | rfl
    · exact right_1 (by omega) (by omega) wc c5 c6 c7 c8 c9
    · exact right_2 (by omega) (by omega) wc c5 c6 c7 c8 c9
    · exact right_3 (by omega) (by omega) wc c5 c6 c7 c8 c9
    · exact right_4 (by omega) (by omega) wc c5 c6 c7 c8 c9
    · exact right_5 (by omega) (by omega) wc c5 c6 c7 c8 c9
    · exact right_6 (by omega) (by omega) wc c5 c6 c7 c8 c9
    · exact right_7 (by omega) (by omega) wc c5 c6 c7 c8 c9
 · cases hm
end Go.Proofs.Ytecncappdnhbaaa
end
end

section
noncomputable section
namespace Go.Ab
open Go.RowKit
section
variable {sz:TypeId → Nat} {base:Nat → Prop} {w0 w:World}
theorem relW_fz {m:Nat → Option BI} {fz fz':Nat → Option (Array Value)} {lo:Nat} {H:xas} (hw:xby sz base w0 ⟨m,fz,lo⟩ H w) (h1:∀ k arr,fz k=some arr → fz' k=some arr)
    (h2:∀ k arr,fz' k=some arr → ∃ e fr,w.heap[k]? = some (.cells arr e fr)) (h3:∀ b i k arr,m b=some i → (H.get b).writes=true → fz' k=some arr → k ≠ i.blk):xby sz base w0 ⟨m,fz',lo⟩ H w :=
  ⟨hw.below,hw.baseLe,hw.fresh,fun b i e=>(hw.blk b i e).mono ⟨fun _ _ e=>e,h1⟩,hw.apart,h2,h3,hw.lo⟩
end
def xdm.OKF (fl:TypeId → Bool) (cx:Cx) (g:FuncId) (s:xdm):Prop :=
  ∀ us bs c v bs',s.m us bs=some (c,v,bs') → xav c=true → xav (zin fl s.rs us bs)=true → ∃ (f:Nat) (h':xas) (ks:List Nat) (b o len:Nat) (cp:Option Nat) (e:TypeId) (n:Nat) (cs:List AV),xbl cx f (.fn g) us (mkL bs)=some (.slice (some (b,o)) len cp,h')∧nodupB ks=true∧(∀ j,j < bs.length → ks[j]? = some j) ∧
    b ∉ ks∧h'.get b=.cells true e n cs∧o+len*xcc cx e ≤ n∧xhu cs=true∧v=.fsl false len (xan cs o (len*xcc cx e))∧(∀ j ∈ ks,(h'.get j).writes=true) ∧
    bs'=xio (fun b=>(h'.get b).q fl s.rs fun b=>idxN b ks) ks∧xav (xea (fun b=>(h'.get b).c fl s.rs fun b=>xhe b ks) ks)=true
theorem xdm.soundF {P:Program} {cx:Cx} {fl:TypeId → Bool} (hcx:xgm P cx) (hs:xcy P cx) {g:FuncId} {s:xdm} (h:s.OKF fl cx g):xdm.Sound P cx.ty fl g s:=by
  intro base w0 args H H' v μ w xs hrun hw hr r n
  unfold xdm.run at hrun
  replace hrun:=xai hrun;obtain ⟨t,ht,hrun⟩:=hrun
  replace hrun:=xai hrun;obtain ⟨⟨c,v',bs'⟩,hm,hrun⟩:=hrun
  cases hc:xav (xdm.conds fl s.rs t (c,v',bs')) with
  | false=>rw [hc] at hrun;cases hrun
  | true =>
  rw [hc,xcb] at hrun
  injection hrun with hrun;injection hrun with e1 e2
  simp only at e1 e2
  unfold xdm.conds at hc
  simp only [xbf] at hc
  obtain ⟨c2,c3,c4,c5⟩:=hc
  have hw1:xby (xcc cx) base w0 μ H w:=hw
  have T:=xnn hw1 ht c2
  obtain ⟨f,h',ks,b0,o,len,cp,te,nn,cs,hcall,hnd,hk,hbk,hg0,hle,hbare,ev,hwr,eb,hb0⟩:=h _ _ _ _ _ hm c4 c3
  have h1:=((xei hcx (hs.sum (xjm μ w t.ns) w) (hs.loop (xjm μ w t.ns) w) f).fn hcall T.rel (T.val _ hr)).2 r n
  refine h1.mono ?_
  rintro e w' ⟨Z,rfl,_,μ',hg,hz,hw'⟩
  have hnd:=xfm hnd
  obtain ⟨i0,ad,kc,hi0,rfl,hlk,had,_⟩:=xdu hz
  obtain ⟨hl,arr,te',fr,harr,hcs,hown⟩:=xby.row (cx:=cx) hw' hi0 hg0
  have hi1:(h'.get b0).writes=true:=by rw [hg0];rfl
  have hl1:(h'.get b0).live=true:=by rw [hg0];rfl
  rw [xkq,T.len] at hg
  have hnew:w.heap.size ≤ i0.blk:=by
    refine Nat.le_of_not_lt fun hlt=>(hown rfl).1 ⟨hlt,fun b hb i hi e=>?_⟩
    obtain ⟨j,hj⟩:=List.getElem?_of_mem hb
    have hj1:=(List.getElem?_eq_some_iff.1 hj).1
    have ej:μ' j=some i:=by
      rw [hg.same j hj1]
      show (t.ns[j]?).bind _=_
      rw [hj];exact hi
    have hjk:j ∈ ks:=List.mem_of_getElem? (hk j (by rw [T.len];exact hj1))
    have hne:b0 ≠ j:=fun h=>hbk (h ▸ hjk)
    exact hw'.apart b0 j i0 i hi0 ej hne hi1 (xcs (hwr j hjk)) e
  let fz':Nat → Option (Array Value):=fun k=>match μ'.fz k with
    | some a=>some a
    | none=>if k=i0.blk then some arr else none
  have sup:∀ k a,μ'.fz k=some a → fz' k=some a:=fun k a e=>by
    show (match μ'.fz k with
    | some a=>some a
    | none=>if k=i0.blk then some arr else none)=some a
    rw [e]
  have kinds:∀ k a,fz' k=some a → μ'.fz k=some a ∨ (k=i0.blk∧a=arr):=by
    intro k a e
    have e:(match μ'.fz k with
    | some a=>some a
    | none=>if k=i0.blk then some arr else none)=some a:=e
    cases hx:μ'.fz k with
    | some b=>rw [hx] at e;exact .inl e
    | none =>
      rw [hx] at e
      simp only at e
      split at e
      · rename_i hkk;injection e with e;exact .inr ⟨hkk,e.symm⟩
      · cases e
  have hz0:μ'.fz i0.blk=none:=by
    cases hx:μ'.fz i0.blk with
    | none=>rfl
    | some a=>exact absurd rfl (hw'.frozApart b0 i0 _ a hi0 hi1 hx)
  have hm2:∀ b i,xhe b ks=true → μ' b=some i → (⟨fun j=>(ks[j]?).bind fun b=>μ' b,μ'.fz,μ'.lo⟩:Inj) (idxN b ks)=some i:=by
    intro b i hb e
    show (ks[idxN b ks]?).bind _=_
    rw [xez hb];exact e
  have hp0:xby (xcc cx) (xjm μ w t.ns) w ⟨fun j=>(ks[j]?).bind fun b=>μ' b,μ'.fz,μ'.lo⟩ (mkL bs') w':=by
    rw [eb]
    exact xkf hw' hnd (by rw [xds,List.length_map]) (fun j b c hj hcj=>by
      rw [xds,List.getElem?_map,hj] at hcj
      injection hcj with hcj
      subst hcj
      exact Blk.q_to _ (xbx hb0 b (List.mem_of_getElem? hj))) hw'.below hw'.baseLe (fun _ _ _ _ h=>h) hw'.lo
  have hp:xby (xcc cx) (xjm μ w t.ns) w ⟨fun j=>(ks[j]?).bind fun b=>μ' b,fz',μ'.lo⟩ (mkL bs') w':=by
    refine relW_fz hp0 sup (fun k a e=>?_) fun j i k a ej hwj hk2=>?_
    · rcases kinds k a e with e | ⟨rfl,rfl⟩
      · exact hw'.froz k a e
      · exact ⟨_,_,harr⟩
    · rcases kinds k a hk2 with e | ⟨rfl,rfl⟩
      · exact hp0.frozApart j i k a ej hwj e
      · obtain ⟨b,hb,ej⟩:=Option.bind_eq_some_iff.1 ej
        have hbm:=List.mem_of_getElem? hb
        have hne:b0 ≠ b:=fun h=>hbk (h ▸ hbm)
        exact hw'.apart b0 b i0 i hi0 ej hne hi1 (xcs (hwr b hbm))
  have hg2:xhk t.ns.length (μ.take w t.ns) ⟨fun j=>(ks[j]?).bind fun b=>μ' b,fz',μ'.lo⟩:=by
    refine ⟨fun b hb=>?_,fun k a e=>sup k a (hg.fz k a e),hg.lo,fun k a e=>?_⟩
    · show (ks[b]?).bind _=_
      rw [hk b (by rw [T.len];exact hb)]
      exact hg.same b hb
    · rcases kinds k a e with e | ⟨rfl,rfl⟩
      · exact hg.fzn k a e
      · exact .inr hnew
  obtain ⟨μ2,r1,r2,r3,r4,r5,r6⟩:=xnk (vs':=[v']) hw1 T hp hg2 c5
  refine ⟨_,rfl,?_,μ2,r2,?_,?_⟩
  · rw [← e2];exact r6
  · rw [← e1]
    refine r3 v' (by simp) _ ?_
    rw [ev]
    have hcut:xdn h' (b0,o) (len*xcc cx te)=some (xan cs o (len*xcc cx te)):=by
      unfold xdn
      rw [hg0]
      simp only
      rw [if_pos hle]
    obtain ⟨ys,hry,hyl,hyc⟩:=xeu hw' hcut hi0
    have hpx:RelL (⟨fun j=>(ks[j]?).bind fun b=>μ' b,fz',μ'.lo⟩:Inj) (xan cs o (len*xcc cx te)) ys:=xrp (bareL_cut hbare _ _) hry
    refine RelV.fsl (arr:=arr) (vs:=ys) (fun hne=>?_) hpx (fun j y hj=>?_) hlk
    · have hk:kc ≠ 0:=by
        intro hk
        apply hne
        have:len=0:=by omega
        rw [this];simp [xan]
      rw [had hk]
      refine ⟨rfl,?_⟩
      show (match μ'.fz i0.blk with
        | some a=>some a
        | none=>if i0.blk=i0.blk then some arr else none)=some arr
      rw [hz0];simp
    · have hj':j < ys.length:=(List.getElem?_eq_some_iff.1 hj).1
      have hk:kc ≠ 0:=by
        intro hk
        have:len=0:=by omega
        rw [hyl,this] at hj';simp at hj'
      have:=hyc j y hj
      rw [had hk]
      simpa [World.cell?,harr] using this
  · rw [← e2];exact r1
def zk1 (sz:TypeId → Nat) (ks:List Nat) (h:xas) (v:AV):Option (List Bool × AV) :=
  match v with
  | .int k n=>some ([], .int k n)
  | .bool b=>some ([], .bool b)
  | .str s=>some ([], .str s)
  | .fsl a b cs=>some ([AV.plainL cs], .fsl a b cs)
  | .slice p len c=>(match p with
    | none=>some ([], .fsl true 0 [])
    | some p=>match h.get p.1 with
      | .cells o e n cs=>some ([o,!xhe p.1 ks,Nat.ble (p.2+len*sz e) n,AV.plainL cs], .fsl false len (xan cs p.2 (len*sz e)))
      | _=>none)
  | _=>none
def zkQ (sz:TypeId → Nat) (ks:List Nat) (h:xas):AV → Option (List Bool × AV):=zS (zS (zk1 sz ks h))
theorem memB_mem {b:Nat} {ks:List Nat}:xhe b ks=true ↔ b ∈ ks:=by
  constructor
  · intro h
    exact List.mem_of_getElem? (xez h)
  · intro h
    induction ks with
    | nil=>cases h
    | cons a l ih =>
      show cb (Nat.beq b a) true (xhe b l)=true
      cases hb:Nat.beq b a with
      | true=>rfl
      | false =>
        rw [xcd]
        rcases List.mem_cons.1 h with h | h
        · subst h;simp at hb
        · exact ih h
def xdm.OKG (fl:TypeId → Bool) (cx:Cx) (g:FuncId) (s:xdm):Prop :=
  ∀ us bs c v bs',s.m us bs=some (c,v,bs') → xav c=true → xav (zin fl s.rs us bs)=true → ∃ (f:Nat) (v0:AV) (h':xas) (ks:List Nat) (c2:List Bool),xbl cx f (.fn g) us (mkL bs)=some (v0,h')∧nodupB ks=true∧(∀ j,j < bs.length → ks[j]? = some j) ∧
    zkQ (xcc cx) ks h' v0=some (c2,v)∧xav c2=true∧(∀ j ∈ ks,(h'.get j).writes=true) ∧
    bs'=xio (fun b=>(h'.get b).q fl s.rs fun b=>idxN b ks) ks∧xav (xea (fun b=>(h'.get b).c fl s.rs fun b=>xhe b ks) ks)=true
theorem xdm.soundG {P:Program} {cx:Cx} {fl:TypeId → Bool} (hcx:xgm P cx) (hs:xcy P cx) {g:FuncId} {s:xdm} (h:s.OKG fl cx g):xdm.Sound P cx.ty fl g s:=by
  classical
  intro base w0 args H H' v μ w xs hrun hw hr r n
  unfold xdm.run at hrun
  replace hrun:=xai hrun;obtain ⟨t,ht,hrun⟩:=hrun
  replace hrun:=xai hrun;obtain ⟨⟨c,v',bs'⟩,hm,hrun⟩:=hrun
  cases hc:xav (xdm.conds fl s.rs t (c,v',bs')) with
  | false=>rw [hc] at hrun;cases hrun
  | true =>
  rw [hc,xcb] at hrun
  injection hrun with hrun;injection hrun with e1 e2
  simp only at e1 e2
  unfold xdm.conds at hc
  simp only [xbf] at hc
  obtain ⟨c2,c3,c4,c5⟩:=hc
  have hw1:xby (xcc cx) base w0 μ H w:=hw
  have T:=xnn hw1 ht c2
  obtain ⟨f,v0,h',ks,cz,hcall,hnd,hk,hzk,hcz,hwr,eb,hb0⟩:=h _ _ _ _ _ hm c4 c3
  have h1:=((xei hcx (hs.sum (xjm μ w t.ns) w) (hs.loop (xjm μ w t.ns) w) f).fn hcall T.rel (T.val _ hr)).2 r n
  refine h1.mono ?_
  rintro e w' ⟨Z,rfl,_,μ',hg,hz,hw'⟩
  have hnd:=xfm hnd
  rw [xkq,T.len] at hg
  have hnew:∀ b i,b ∉ ks → μ' b=some i → (∃ te nn cs,h'.get b=.cells true te nn cs) → w.heap.size ≤ i.blk:=by
    intro b i hb hi ⟨te,nn,cs,hg0⟩
    obtain ⟨hl,arr,te',fr,harr,hcs,hown⟩:=xby.row (cx:=cx) hw' hi hg0
    refine Nat.le_of_not_lt fun hlt=>(hown rfl).1 ⟨hlt,fun b1 hb1 i1 hi1 e=>?_⟩
    obtain ⟨j,hj⟩:=List.getElem?_of_mem hb1
    have hj1:=(List.getElem?_eq_some_iff.1 hj).1
    have ej:μ' j=some i1:=by
      rw [hg.same j hj1]
      show (t.ns[j]?).bind _=_
      rw [hj];exact hi1
    have hjk:j ∈ ks:=List.mem_of_getElem? (hk j (by rw [T.len];exact hj1))
    have hne:b ≠ j:=fun h=>hb (h ▸ hjk)
    exact hw'.apart b j i i1 hi ej hne (by rw [hg0];rfl) (xcs (hwr j hjk)) e
  let New:Nat → Prop:=fun k=>∃ b i,b ∉ ks∧μ' b=some i∧(∃ te nn cs,h'.get b=.cells true te nn cs)∧i.blk=k
  let fz':Nat → Option (Array Value):=fun k=>match μ'.fz k with
    | some a=>some a
    | none=>if New k then xfu w' k else none
  have sup:∀ k a,μ'.fz k=some a → fz' k=some a:=fun k a e=>by
    show (match μ'.fz k with
    | some a=>some a
    | none=>if New k then xfu w' k else none)=some a
    rw [e]
  have kinds:∀ k a,fz' k=some a → μ'.fz k=some a ∨ (New k∧xfu w' k=some a):=by
    intro k a e
    have e:(match μ'.fz k with
    | some a=>some a
    | none=>if New k then xfu w' k else none)=some a:=e
    cases hx:μ'.fz k with
    | some b=>rw [hx] at e;exact .inl e
    | none =>
      rw [hx] at e
      simp only at e
      split at e
      · rename_i hkk;exact .inr ⟨hkk,e⟩
      · cases e
  have hm2:∀ b i,xhe b ks=true → μ' b=some i → (⟨fun j=>(ks[j]?).bind fun b=>μ' b,μ'.fz,μ'.lo⟩:Inj) (idxN b ks)=some i:=by
    intro b i hb e
    show (ks[idxN b ks]?).bind _=_
    rw [xez hb];exact e
  have hp0:xby (xcc cx) (xjm μ w t.ns) w ⟨fun j=>(ks[j]?).bind fun b=>μ' b,μ'.fz,μ'.lo⟩ (mkL bs') w':=by
    rw [eb]
    exact xkf hw' hnd (by rw [xds,List.length_map]) (fun j b c hj hcj=>by
      rw [xds,List.getElem?_map,hj] at hcj
      injection hcj with hcj
      subst hcj
      exact Blk.q_to _ (xbx hb0 b (List.mem_of_getElem? hj))) hw'.below hw'.baseLe (fun _ _ _ _ h=>h) hw'.lo
  have hp:xby (xcc cx) (xjm μ w t.ns) w ⟨fun j=>(ks[j]?).bind fun b=>μ' b,fz',μ'.lo⟩ (mkL bs') w':=by
    refine relW_fz hp0 sup (fun k a e=>?_) fun j i k a ej hwj hk2=>?_
    · rcases kinds k a e with e | ⟨_,e⟩
      · exact hw'.froz k a e
      · unfold xfu at e
        split at e
        · rename_i arr' te fr hk1
          injection e with e;subst e
          exact ⟨te,fr,hk1⟩
        · cases e
    · rcases kinds k a hk2 with e | ⟨⟨b1,i1,hb1,hi1,⟨te,nn,cs,hg1⟩,rfl⟩,_⟩
      · exact hp0.frozApart j i k a ej hwj e
      · obtain ⟨b,hb,ej⟩:=Option.bind_eq_some_iff.1 ej
        have hbm:=List.mem_of_getElem? hb
        have hne:b1 ≠ b:=fun h=>hb1 (h ▸ hbm)
        exact hw'.apart b1 b i1 i hi1 ej hne (by rw [hg1];rfl) (xcs (hwr b hbm))
  have hg2:xhk t.ns.length (μ.take w t.ns) ⟨fun j=>(ks[j]?).bind fun b=>μ' b,fz',μ'.lo⟩:=by
    refine ⟨fun b hb=>?_,fun k a e=>sup k a (hg.fz k a e),hg.lo,fun k a e=>?_⟩
    · show (ks[b]?).bind _=_
      rw [hk b (by rw [T.len];exact hb)]
      exact hg.same b hb
    · rcases kinds k a e with e | ⟨⟨b1,i1,hb1,hi1,hc1,rfl⟩,_⟩
      · exact hg.fzn k a e
      · exact .inr (hnew b1 i1 hb1 hi1 hc1)
  obtain ⟨μ2,r1,r2,r3,r4,r5,r6⟩:=xnk (vs':=[v']) hw1 T hp hg2 c5
  let μF:Inj:=⟨fun j=>(ks[j]?).bind fun b=>μ' b,fz',μ'.lo⟩
  have good:∀ {v u:AV} {cc:List Bool} {x:Value},zk1 (xcc cx) ks h' v=some (cc,u) → xav cc=true → RelV μ' v x → RelV μF u x:=by
    intro v u cc x h hc hr
    cases v <;> simp only [zk1] at h <;> try (cases h;done)
    case int k n=>injection h with h;injection h with h1 h3;subst h3;cases hr;exact .int _ _
    case bool b=>injection h with h;injection h with h1 h3;subst h3;cases hr;exact .bool _
    case str s=>injection h with h;injection h with h1 h3;subst h3;cases hr;exact .str _
    case fsl a b cs =>
      injection h with h;injection h with h1 h3;subst h1;subst h3
      rw [xah] at hc
      exact RelV.move (μ':=μF) sup (by simp only [AV.plain];exact hc.1) hr
    case slice p len cp =>
      cases p with
      | none =>
        injection h with h;injection h with h1 h3;subst h3
        cases hr;exact .fslN
      | some p =>
        simp only at h
        split at h
        · rename_i own te nn cs hg0
          injection h with h;injection h with h1 h3;subst h1;subst h3
          simp only [xah] at hc
          obtain ⟨ho,hnk,hle,hpl,_⟩:=hc
          subst ho
          have hnk:p.1 ∉ ks:=fun hm=>by rw [memB_mem.2 hm] at hnk;cases hnk
          have hle:=Nat.le_of_ble_eq_true hle
          obtain ⟨i,ad,k,hi,rfl,hlk,had,_⟩:=xdu hr
          obtain ⟨hl,arr,e',fr,harr,hcs,hown⟩:=xby.row (cx:=cx) hw' hi hg0
          have hcut:xdn h' p (len*xcc cx te)=some (xan cs p.2 (len*xcc cx te)):=by
            unfold xdn
            rw [hg0]
            simp only
            rw [if_pos hle]
          obtain ⟨ys,hry,hyl,hyc⟩:=xeu hw' hcut hi
          have hz0:μ'.fz i.blk=none:=by
            cases hx:μ'.fz i.blk with
            | none=>rfl
            | some a=>exact absurd rfl (hw'.frozApart p.1 i _ a hi (by rw [hg0];rfl) hx)
          have hzz:μF.fz i.blk=some arr:=by
            show (match μ'.fz i.blk with
              | some a=>some a
              | none=>if New i.blk then xfu w' i.blk else none)=some arr
            rw [hz0]
            simp only
            rw [if_pos ⟨p.1,i,hnk,hi,⟨_,_,_,hg0⟩,rfl⟩]
            unfold xfu
            rw [harr]
          have hpx:RelL μF (xan cs p.2 (len*xcc cx te)) ys:=RelL.move (μ':=μF) sup (xqz hpl _ _) hry
          refine RelV.fsl (arr:=arr) (vs:=ys) (fun hne=>?_) hpx (fun j y hj=>?_) hlk
          · have hk:k ≠ 0:=by
              intro hk
              apply hne
              have:len=0:=by omega
              rw [this];simp [xan]
            rw [had hk]
            exact ⟨rfl,hzz⟩
          · have hj':j < ys.length:=(List.getElem?_eq_some_iff.1 hj).1
            have hk:k ≠ 0:=by
              intro hk
              have:len=0:=by omega
              rw [hyl,this] at hj';simp at hj'
            have:=hyc j y hj
            rw [had hk]
            simpa [World.cell?,harr] using this
        · cases h
  have goodL:∀ (f:AV → Option (List Bool × AV)),(∀ {v u:AV} {cc:List Bool} {x:Value},f v=some (cc,u) → xav cc=true → RelV μ' v x → RelV μF u x) → ∀ {vs us:List AV} {cc:List Bool} {xs:List Value},zL f vs=some (cc,us) → xav cc=true → RelL μ' vs xs → RelL μF us xs:=by
    intro f hf vs
    induction vs with
    | nil=>intro us cc xs h hc hr;cases hr;injection h with h;injection h with h1 h3;subst h3;exact .nil
    | cons v vs ih =>
      intro us cc xs h hc hr
      cases hr with
      | cons a b =>
        change ((f v).ob fun a=>(zL f vs).ob fun b=>some (a.1++b.1,a.2::b.2))=some (cc,us) at h
        replace h:=xai h;obtain ⟨⟨c1,u⟩,h1,h⟩:=h
        replace h:=xai h;obtain ⟨⟨c2,us'⟩,h3,h⟩:=h
        injection h with h;injection h with e1 e2;subst e1;subst e2
        rw [xbf] at hc
        exact .cons (hf h1 hc.1 a) (ih h3 hc.2 b)
  have goodS:∀ (f:AV → Option (List Bool × AV)),(∀ {v u:AV} {cc:List Bool} {x:Value},f v=some (cc,u) → xav cc=true → RelV μ' v x → RelV μF u x) → ∀ {v u:AV} {cc:List Bool} {x:Value},zS f v=some (cc,u) → xav cc=true → RelV μ' v x → RelV μF u x:=by
    intro f hf v u cc x h hc hr
    cases v with
    | agg cs =>
      change ((zL f cs).ob fun r=>some (r.1,AV.agg r.2))=some (cc,u) at h
      replace h:=xai h;obtain ⟨⟨c1,us⟩,h1,h⟩:=h
      injection h with h;injection h with e1 e2;subst e1;subst e2
      cases hr with
      | agg a=>exact .agg (goodL f hf h1 hc a)
    | tuple cs =>
      change ((zL f cs).ob fun r=>some (r.1,AV.tuple r.2))=some (cc,u) at h
      replace h:=xai h;obtain ⟨⟨c1,us⟩,h1,h⟩:=h
      injection h with h;injection h with e1 e2;subst e1;subst e2
      cases hr with
      | tuple a=>exact .tuple (goodL f hf h1 hc a)
    | _=>exact hf h hc hr
  have hval:RelV μF v' Z:=goodS _ (goodS _ good) hzk hcz hz
  refine ⟨Z,rfl,?_,μ2,r2,?_,?_⟩
  · rw [← e2];exact r6
  · rw [← e1]
    exact r3 v' (by simp) Z hval
  · rw [← e2];exact r1
theorem xdm.soundGZ {P:Program} {ty:TypeId → Option ATy} {fn:FuncId → Option Func} {K:xem} (hcx:xgm P (xdt ty fn K)) (hs:xcy P (xdt ty fn K)) {g:FuncId} {s:xdm} (h:s.OKG (xbz ty) (xdt ty fn K) g):xdm.Sound P ty (xbz ty) g s:=xdm.soundG hcx hs h
theorem xdm.soundFZ {P:Program} {ty:TypeId → Option ATy} {fn:FuncId → Option Func} {K:xem} (hcx:xgm P (xdt ty fn K)) (hs:xcy P (xdt ty fn K)) {g:FuncId} {s:xdm} (h:s.OKF (xbz ty) (xdt ty fn K) g):xdm.Sound P ty (xbz ty) g s:=xdm.soundF hcx hs h
theorem xdm.sound_ex {P:Program} {ty:TypeId → Option ATy} {fl:TypeId → Bool} {g:FuncId} {s:xdm} (h:∀ us bs r,s.m us bs=some r → ∃ a:xdm,a.rs=s.rs∧xdm.Sound P ty fl g a∧a.m us bs=some r):xdm.Sound P ty fl g s:=by
  intro base w0 args H H' v μ w xs hrun
  have hrun0:=hrun
  unfold xdm.run at hrun
  replace hrun:=xai hrun;obtain ⟨t,ht,hrun⟩:=hrun
  replace hrun:=xai hrun;obtain ⟨q,hm,hrun⟩:=hrun
  obtain ⟨a,ra,ha,e⟩:=h _ _ _ hm
  refine ha base w0 (args:=args) (H:=H) (H':=H') (v:=v) ?_
  unfold xdm.run
  rw [ra,ht]
  simp only [xdl]
  rw [e]
  simp only [xdl]
  exact hrun
end Go.Ab
end
end

section
noncomputable section
namespace Go.Proofs.Ytecncappdnhbaaa
open Go.Ab.M Go.Ab Go
abbrev T10d:TTab:=[(78,xsd.rt),(49,rputR.rt),(46,(xcf.const (.bool true)).rt),(95,rightR.rt)]
theorem T10d_ok:TOK Try.prog tys T10d:=⟨xcf.rt_sound xra,xcf.rt_sound rputR_ok,xcf.rt_sound xky,xcf.rt_sound xol,trivial⟩
def K10d:xem:={ t:=T10d }
theorem K10d_ok:KOK Try.prog tys K10d:=⟨T10d_ok,trivial,trivial,trivial,trivial⟩
abbrev C10d:=xdt tys fns K10d
theorem xeo:xcy Try.prog C10d:=xdw K10d_ok
end Go.Proofs.Ytecncappdnhbaaa
end
end

section
noncomputable section
namespace Go.Ab
namespace M
def xbs (k:IntKind) (l:List UInt32):List AV:=l.map fun x=>.int k (x.toNat:Int)
def AV.isU (k:IntKind) (v:AV):Bool:=AV.isInt k v && decide (0 ≤ v.intOf∧v.intOf < 4294967296)
def isU (k:IntKind) (cs:List AV):Bool:=cs.all (AV.isU k)
def xbt (cs:List AV):List UInt32:=cs.map fun v=>UInt32.ofNat v.intOf.toNat
def xbw (op:Int):List UInt32 → List (List UInt8) → List UInt8
  | [],_=>[]
  | a::zs,ds=>xdf 4 a.toNat++((if op=2 then ds.headD [] else [])++xbw op zs ds.tail)
abbrev cA (l:List AV) (i:Nat):AV:=(xbp (List.drop ((Int.ofNat i).toNat*1) l) 0).getD AV.undef
def xda (op:Int) (n:Nat):Nat:=if op=2 then 444*n else 4*n
end M
open M
theorem xcj {k:IntKind} {cs:List AV}:isU k cs=true ↔ ∃ l,cs=xbs k l:=by
  constructor
  · intro h
    refine ⟨xbt cs,?_⟩
    unfold xbt xbs
    rw [List.map_map]
    conv=>lhs;rw [← List.map_id cs]
    refine List.map_congr_left fun v hv=>?_
    have:=List.all_eq_true.1 h v hv
    unfold AV.isU at this
    rw [Bool.and_eq_true,decide_eq_true_eq] at this
    obtain ⟨h0,h1,h2⟩:=this
    cases v <;> simp [AV.isInt] at h0
    rename_i k' n
    subst h0
    change 0 ≤ n at h1
    change n < 4294967296 at h2
    show AV.int k' n=.int k' ((UInt32.ofNat n.toNat).toNat:Int)
    congr 1
    rw [UInt32.toNat_ofNat']
    omega
  · rintro ⟨l,rfl⟩
    unfold isU xbs
    rw [List.all_map]
    refine List.all_eq_true.2 fun x _=>?_
    have:=x.toNat_lt
    simp [AV.isU,AV.isInt,AV.intOf]
    omega
theorem xba (k:IntKind) (l:List UInt32):xbt (xbs k l)=l:=by
  unfold xbt xbs
  rw [List.map_map]
  conv=>rhs;rw [← List.map_id l]
  refine List.map_congr_left fun x _=>?_
  show UInt32.ofNat ((x.toNat:Int)).toNat=x
  rw [Int.toNat_natCast,UInt32.ofNat_toNat]
theorem xag (k:IntKind) (l:List UInt32):(xbs k l).length=l.length:=by unfold xbs;rw [List.length_map]
theorem xaw (k:IntKind) (l:List UInt32):AV.plainL (xbs k l)=true:=by
  induction l with
  | nil=>rfl
  | cons x l ih=>exact ih
theorem xpv (k:IntKind) (l:List UInt32) (i:Nat) (n:UInt32) (h:l[i]? = some n):(xbp (List.drop ((Int.ofNat i).toNat*1) (xbs k l)) 0).getD AV.undef=.int k (n.toNat:Int):=by
  have e:(Int.ofNat i).toNat*1=i:=Nat.mul_one i
  rw [e,xdj,List.getElem?_drop]
  unfold xbs
  rw [List.getElem?_map,Nat.add_zero,h];rfl
theorem xfl (L:List UInt8) (n:Nat) (h:L.length=n):xan (ofBytes L) 0 n=ofBytes L:=by
  rw [xhd,List.drop_zero,List.take_of_length_le (by omega)]
theorem xgl (k:IntKind) (l:List UInt32) (x:UInt32):xbs k l++[AV.int k (x.toNat:Int)]=xbs k (l++[x]):=by unfold xbs;rw [List.map_append];rfl
theorem xnr (l:List (List UInt8)) (x:List UInt8):encS l++[AV.str x]=encS (l++[x]):=by unfold encS;rw [List.map_append];rfl
theorem encD_snoc (l:List (Bool × List UInt8)) (x:Bool × List UInt8):xcu l++[rowD x]=xcu (l++[x]):=by unfold xcu;rw [List.map_append];rfl
theorem u64_u32 (x:UInt32):xaf .u64 (x.toNat:Int)=x.toNat:=xbe .u64 x.toNat (by have:=x.toNat_lt;show x.toNat < 18446744073709551616;omega)
theorem u32_ge (x:UInt32):xbr (Int.ofNat 0) (x.toNat:Int)=true:=by rw [xax];exact decide_eq_true (Int.natCast_nonneg _)
theorem u32_lt (x:UInt32):xak (x.toNat:Int) (Int.ofNat 4294967296)=true:=by rw [xat];exact decide_eq_true (by have:=x.toNat_lt;show (x.toNat:Int) < 4294967296;omega)
theorem u32_lt' (x:UInt32):xak (x.toNat:Int) (Int.ofNat 18446744073709551616)=true:=by rw [xat];exact decide_eq_true (by have:=x.toNat_lt;show (x.toNat:Int) < 18446744073709551616;omega)
theorem xdv (op:Int) (x:UInt32):∀ (zs:List UInt32) (ds:List (List UInt8)),xbw op (zs++[x]) ds=xbw op zs ds++(xdf 4 x.toNat++(if op=2 then (ds[zs.length]?).getD [] else []))
  | [],ds=>by
    show xdf 4 x.toNat++((if op=2 then ds.headD [] else [])++xbw op [] ds.tail)=[]++_
    cases ds <;> simp [xbw]
  | a::zs,ds=>by
    show xdf 4 a.toNat++((if op=2 then ds.headD [] else [])++xbw op (zs++[x]) ds.tail)=(xdf 4 a.toNat++((if op=2 then ds.headD [] else [])++xbw op zs ds.tail))++_
    rw [xdv op x zs ds.tail]
    have e:ds.tail[zs.length]? = ds[(a::zs).length]?:=by cases ds <;> simp
    rw [e]
    simp only [List.append_assoc]
theorem xgt (op:Int):∀ (zs:List UInt32) (ds:List (List UInt8)),(op=2 → zs.length ≤ ds.length) → (op=2 → ∀ i d,i < zs.length → ds[i]? = some d → d.length=440) → (xbw op zs ds).length=xda op zs.length
  | [],ds,_,_=>by unfold xda;split <;> rfl
  | a::zs,ds,h1,h2=>by
    show (xdf 4 a.toNat++((if op=2 then ds.headD [] else [])++xbw op zs ds.tail)).length=_
    have ih:=xgt op zs ds.tail (fun h=>by have:=h1 h;simp at this ⊢;omega) (fun h i d hi hd=>h2 h (i+1) d (by simp;omega) (by cases ds with
      | nil=>simp at hd
      | cons b l=>exact hd))
    rw [List.length_append,List.length_append,ih,xcv]
    unfold xda
    by_cases h:op=2
    · simp only [if_pos h]
      have:=h1 h
      cases ds with
      | nil=>simp at this
      | cons b l =>
        have:=h2 h 0 b (by simp) rfl
        show 4+(b.length+_)=_
        rw [this,List.length_cons];omega
    · simp only [if_neg h]
      show 4+(0+_)=_
      rw [List.length_cons];omega
end Go.Ab
end
end

section
noncomputable section
namespace Go.Ab.M
def xqt (op:Int) (lm dn:Nat) (dv:List AV):Bool:=decide (op=2 → lm=dn∧okD xdd dv=true)
def xjd (dv:List AV):List (List UInt8):=(xoi dv).map Prod.snd
end Go.Ab.M
namespace Go.Proofs.Ytecncappdnhbaaa
open Go.Ab.M Go.Ab Go
theorem wA_3 (op sub pl fi ct:Int) (la:Bool) (ln:Nat) (lv:List AV) (da:Bool) (dn:Nat) (dv:List AV) (n:Nat) (n':Nat) (cs:List AV) (lb:Bool) (lm:Nat) (lw:List AV) (m:Nat) (i:Nat) (h0:(xak (Int.ofNat i) (Int.ofNat m))=true) (h1:((Int.ofNat i).toNat.succ.ble lm)=true) (h2:(lw.length.beq (lm.mul 1))=true) (h3:(Nat.ble 1 (List.drop ((Int.ofNat i).toNat*1) lw).length)=true) (h4:(AV.isInt IntKind.u32 (cA lw i))=true) (h5:((0+n*1).ble n')=true) (h6:(AV.plainL cs)=true) (h7:((xan cs 0 (n*1)).length.beq n)=true) (h8:(u8L (xan cs 0 (n*1)))=true) (h9:(n.ble 1000000000000)=true) (h10:(xbr (Int.ofNat 0) (cA lw i).intOf)=true) (h11:(xak (cA lw i).intOf (Int.ofNat 4294967296))=true) (h12:(xae (AV.int IntKind.u8 op).intOf (Int.ofNat 2))=false) (h13:(AV.plainL lw)=true) (h14:(AV.plainL lv)=true) (h15:(AV.plainL dv)=true) (h16:(AV.plainL (kept (ofBytes (xap (xan cs 0 (n*1))++[UInt8.ofNat ((cA lw i).intOf.toNat / 16777216),UInt8.ofNat ((cA lw i).intOf.toNat / 65536),UInt8.ofNat ((cA lw i).intOf.toNat / 256),UInt8.ofNat ((cA lw i).intOf.toNat / 1)]))))=true) :
 xbb Try.prog (xdi tys) 69 2 (xbj (xbg Try.f57 1)) { fr:=xar 69 ([1,4,36,37,38].zip [.ptr (some (0,0)), .slice (some (1,0)) n none, .fsl lb lm lw, .int .i64 (Int.ofNat m), .int .i64 (Int.ofNat i)]),ds:=xdp 0,H:=mkL [.cells true 103 7 [.int .u8 op, .int .u8 sub, .int .u8 pl, .int .u32 fi, .int .u8 ct, .fsl la ln lv, .fsl da dn dv], .cells true 5 n' cs] } (AX.normal) ⟨xar 69 ([1,4,36,37,38].zip [.ptr (some (0,0)), .slice (some (2,0)) (n+4) none, .fsl lb lm lw, .int .i64 (Int.ofNat m), .int .i64 (xaf IntKind.i64 ((Int.ofNat i).add (Int.ofNat 1)))]),xdp 0,mkL [.cells true 103 7 [.int .u8 op, .int .u8 sub, .int .u8 pl, .int .u32 fi, .int .u8 ct, .fsl la ln lv, .fsl da dn dv], .cells true 5 n' cs, .cells true 5 (n+4) (kept (ofBytes (xap (xan cs 0 (n*1))++[UInt8.ofNat ((cA lw i).intOf.toNat / 16777216),UInt8.ofNat ((cA lw i).intOf.toNat / 65536),UInt8.ofNat ((cA lw i).intOf.toNat / 256),UInt8.ofNat ((cA lw i).intOf.toNat / 1)])))]⟩ :=
 xbh (g:=30) (k:=57) (f:=30) (sl:=[1,4,36,37,38]) (ks:=[0,1,2]) (rs:=[]) (ds:=[]) (cxZ xbd) xeo (q:=qNs [0,3,0,0,0,0,0,0,0,0,0,0,0,5,1]) (c:=(cnT::cnT::cnT::cnT::cnT::cnT::cnT::cnT::cnT::cnT::cnT::cnT::cnF::[])) (cq:=[true,true,AV.plainL lw,true,AV.plainL lv,AV.plainL dv,true,AV.plainL cs,true,AV.plainL (kept (ofBytes (xap (xan cs 0 (n*1))++[UInt8.ofNat ((cA lw i).intOf.toNat / 16777216),UInt8.ofNat ((cA lw i).intOf.toNat / 65536),UInt8.ofNat ((cA lw i).intOf.toNat / 256),UInt8.ofNat ((cA lw i).intOf.toNat / 1)])))]) (by kernel_rfl) ⟨h0,h1,h2,h3,h4,h5,h6,h7,h8,h9,h10,h11,h12,trivial⟩ (xci ⟨rfl,rfl,h13,rfl,h14,h15,rfl,h6,rfl,h16,trivial⟩) (by kernel_rfl) (by kernel_rfl) (by kernel_rfl) (by kernel_rfl) (by kernel_rfl)
theorem wA_2 (op sub pl fi ct:Int) (la:Bool) (ln:Nat) (lv:List AV) (da:Bool) (dn:Nat) (dv:List AV) (n:Nat) (n':Nat) (cs:List AV) (lb:Bool) (lm:Nat) (lw:List AV) (m:Nat) (i:Nat) (h0:(xak (Int.ofNat i) (Int.ofNat m))=true) (h1:((Int.ofNat i).toNat.succ.ble lm)=true) (h2:(lw.length.beq (lm.mul 1))=true) (h3:(Nat.ble 1 (List.drop ((Int.ofNat i).toNat*1) lw).length)=true) (h4:(AV.isInt IntKind.u32 (cA lw i))=true) (h5:((0+n*1).ble n')=true) (h6:(AV.plainL cs)=true) (h7:((xan cs 0 (n*1)).length.beq n)=true) (h8:(u8L (xan cs 0 (n*1)))=true) (h9:(n.ble 1000000000000)=true) (h10:(xbr (Int.ofNat 0) (cA lw i).intOf)=true) (h11:(xak (cA lw i).intOf (Int.ofNat 4294967296))=true) (h12:(xae (AV.int IntKind.u8 op).intOf (Int.ofNat 2))=true) (h13:((Int.ofNat i).toNat.succ.ble dn)=true) (h14:(dv.length.beq (dn.mul 1))=true) (h15:(Nat.ble 1 (List.drop ((Int.ofNat i).toNat*1) dv).length)=true) (h16:((cA dv i).isFsl)=true) (h17:((cA dv i).fslCells.length.beq ((cA dv i).fslLen.mul 1))=true) (h18:((cA dv i).fslLen.beq 0)=false) (h19:(xch 1 (n+4) (cA dv i).fslLen)=true) (h20:((n+4).beq ((n+4)*1))=true) (h21:((cA dv i).fslCells.all AV.isCell)=true) (h22:(AV.plainL lw)=true) (h23:(AV.plainL lv)=true) (h24:(AV.plainL dv)=true) (h25:(AV.plainL (kept (ofBytes (xap (xan cs 0 (n*1))++[UInt8.ofNat ((cA lw i).intOf.toNat / 16777216),UInt8.ofNat ((cA lw i).intOf.toNat / 65536),UInt8.ofNat ((cA lw i).intOf.toNat / 256),UInt8.ofNat ((cA lw i).intOf.toNat / 1)]))++(cA dv i).fslCells))=true) :
 xbb Try.prog (xdi tys) 69 2 (xbj (xbg Try.f57 1)) { fr:=xar 69 ([1,4,36,37,38].zip [.ptr (some (0,0)), .slice (some (1,0)) n none, .fsl lb lm lw, .int .i64 (Int.ofNat m), .int .i64 (Int.ofNat i)]),ds:=xdp 0,H:=mkL [.cells true 103 7 [.int .u8 op, .int .u8 sub, .int .u8 pl, .int .u32 fi, .int .u8 ct, .fsl la ln lv, .fsl da dn dv], .cells true 5 n' cs] } (AX.normal) ⟨xar 69 ([1,4,36,37,38].zip [.ptr (some (0,0)), .slice (some (2,0)) (n+4+(cA dv i).fslLen) none, .fsl lb lm lw, .int .i64 (Int.ofNat m), .int .i64 (xaf IntKind.i64 ((Int.ofNat i).add (Int.ofNat 1)))]),xdp 0,mkL [.cells true 103 7 [.int .u8 op, .int .u8 sub, .int .u8 pl, .int .u32 fi, .int .u8 ct, .fsl la ln lv, .fsl da dn dv], .cells true 5 n' cs, .cells true 5 (kept (ofBytes (xap (xan cs 0 (n*1))++[UInt8.ofNat ((cA lw i).intOf.toNat / 16777216),UInt8.ofNat ((cA lw i).intOf.toNat / 65536),UInt8.ofNat ((cA lw i).intOf.toNat / 256),UInt8.ofNat ((cA lw i).intOf.toNat / 1)]))++(cA dv i).fslCells).length (kept (ofBytes (xap (xan cs 0 (n*1))++[UInt8.ofNat ((cA lw i).intOf.toNat / 16777216),UInt8.ofNat ((cA lw i).intOf.toNat / 65536),UInt8.ofNat ((cA lw i).intOf.toNat / 256),UInt8.ofNat ((cA lw i).intOf.toNat / 1)]))++(cA dv i).fslCells)]⟩ :=
 xbh (g:=30) (k:=57) (f:=30) (sl:=[1,4,36,37,38]) (ks:=[0,1,3]) (rs:=[]) (ds:=[]) (cxZ xbd) xeo (q:=qNs [0,3,0,0,0,0,0,0,0,0,0,0,0,5,0,6,0,0,0,0,0,1,0,0,0]) (c:=(cnT::cnT::cnT::cnT::cnT::cnT::cnT::cnT::cnT::cnT::cnT::cnT::cnT::cnT::cnT::cnT::cnT::cnT::cnF::cnT::cnT::cnT::[])) (cq:=[true,true,AV.plainL lw,true,AV.plainL lv,AV.plainL dv,true,AV.plainL cs,true,AV.plainL (kept (ofBytes (xap (xan cs 0 (n*1))++[UInt8.ofNat ((cA lw i).intOf.toNat / 16777216),UInt8.ofNat ((cA lw i).intOf.toNat / 65536),UInt8.ofNat ((cA lw i).intOf.toNat / 256),UInt8.ofNat ((cA lw i).intOf.toNat / 1)]))++(cA dv i).fslCells)]) (by kernel_rfl) ⟨h0,h1,h2,h3,h4,h5,h6,h7,h8,h9,h10,h11,h12,h13,h14,h15,h16,h17,h18,h19,h20,h21,trivial⟩ (xci ⟨rfl,rfl,h22,rfl,h23,h24,rfl,h6,rfl,h25,trivial⟩) (by kernel_rfl) (by kernel_rfl) (by kernel_rfl) (by kernel_rfl) (by kernel_rfl)
theorem wB_e (op sub pl fi ct:Int) (la:Bool) (ln:Nat) (lv:List AV) (da:Bool) (dn:Nat) (dv:List AV) (q':Nat) (qs:List AV) (n:Nat) (n':Nat) (cs:List AV) (lb:Bool) (lm:Nat) (lw:List AV) (m:Nat) (i:Nat) (h0:(xak (Int.ofNat i) (Int.ofNat m))=false) (h1:(AV.plainL lw)=true) (h2:(AV.plainL lv)=true) (h3:(AV.plainL dv)=true) (h4:(AV.plainL qs)=true) (h5:(AV.plainL cs)=true) :
 xbb Try.prog (xdi tys) 69 2 (xbj (xbg Try.f57 1)) { fr:=xar 69 ([1,4,36,37,38].zip [.ptr (some (0,0)), .slice (some (2,0)) n none, .fsl lb lm lw, .int .i64 (Int.ofNat m), .int .i64 (Int.ofNat i)]),ds:=xdp 0,H:=mkL [.cells true 103 7 [.int .u8 op, .int .u8 sub, .int .u8 pl, .int .u32 fi, .int .u8 ct, .fsl la ln lv, .fsl da dn dv], .cells true 5 q' qs, .cells true 5 n' cs] } (AX.exit 1) ⟨xar 69 ([1,4,36,37,38].zip [.ptr (some (0,0)), .slice (some (2,0)) n none, .fsl lb lm lw, .int .i64 (Int.ofNat m), .int .i64 (Int.ofNat i)]),xdp 0,mkL [.cells true 103 7 [.int .u8 op, .int .u8 sub, .int .u8 pl, .int .u32 fi, .int .u8 ct, .fsl la ln lv, .fsl da dn dv], .cells true 5 q' qs, .cells true 5 n' cs]⟩ :=
 xbh (g:=30) (k:=57) (f:=30) (sl:=[1,4,36,37,38]) (ks:=[0,1,2]) (rs:=[]) (ds:=[]) (cxZ xbd) xeo (q:=qNs [1]) (c:=(cnF::[])) (cq:=[true,true,AV.plainL lw,true,AV.plainL lv,AV.plainL dv,true,AV.plainL qs,true,AV.plainL cs]) (by kernel_rfl) ⟨h0,trivial⟩ (xci ⟨rfl,rfl,h1,rfl,h2,h3,rfl,h4,rfl,h5,trivial⟩) (by kernel_rfl) (by kernel_rfl) (by kernel_rfl) (by kernel_rfl) (by kernel_rfl)
theorem wB_3 (op sub pl fi ct:Int) (la:Bool) (ln:Nat) (lv:List AV) (da:Bool) (dn:Nat) (dv:List AV) (q':Nat) (qs:List AV) (n:Nat) (n':Nat) (cs:List AV) (lb:Bool) (lm:Nat) (lw:List AV) (m:Nat) (i:Nat) (h0:(xak (Int.ofNat i) (Int.ofNat m))=true) (h1:((Int.ofNat i).toNat.succ.ble lm)=true) (h2:(lw.length.beq (lm.mul 1))=true) (h3:(Nat.ble 1 (List.drop ((Int.ofNat i).toNat*1) lw).length)=true) (h4:(AV.isInt IntKind.u32 (cA lw i))=true) (h5:((0+n*1).ble n')=true) (h6:(AV.plainL cs)=true) (h7:((xan cs 0 (n*1)).length.beq n)=true) (h8:(u8L (xan cs 0 (n*1)))=true) (h9:(n.ble 1000000000000)=true) (h10:(xbr (Int.ofNat 0) (cA lw i).intOf)=true) (h11:(xak (cA lw i).intOf (Int.ofNat 4294967296))=true) (h12:(xae (AV.int IntKind.u8 op).intOf (Int.ofNat 2))=false) (h13:(AV.plainL lw)=true) (h14:(AV.plainL lv)=true) (h15:(AV.plainL dv)=true) (h16:(AV.plainL qs)=true) (h17:(AV.plainL (kept (ofBytes (xap (xan cs 0 (n*1))++[UInt8.ofNat ((cA lw i).intOf.toNat / 16777216),UInt8.ofNat ((cA lw i).intOf.toNat / 65536),UInt8.ofNat ((cA lw i).intOf.toNat / 256),UInt8.ofNat ((cA lw i).intOf.toNat / 1)]))))=true) :
 xbb Try.prog (xdi tys) 69 2 (xbj (xbg Try.f57 1)) { fr:=xar 69 ([1,4,36,37,38].zip [.ptr (some (0,0)), .slice (some (2,0)) n none, .fsl lb lm lw, .int .i64 (Int.ofNat m), .int .i64 (Int.ofNat i)]),ds:=xdp 0,H:=mkL [.cells true 103 7 [.int .u8 op, .int .u8 sub, .int .u8 pl, .int .u32 fi, .int .u8 ct, .fsl la ln lv, .fsl da dn dv], .cells true 5 q' qs, .cells true 5 n' cs] } (AX.normal) ⟨xar 69 ([1,4,36,37,38].zip [.ptr (some (0,0)), .slice (some (2,0)) (n+4) none, .fsl lb lm lw, .int .i64 (Int.ofNat m), .int .i64 (xaf IntKind.i64 ((Int.ofNat i).add (Int.ofNat 1)))]),xdp 0,mkL [.cells true 103 7 [.int .u8 op, .int .u8 sub, .int .u8 pl, .int .u32 fi, .int .u8 ct, .fsl la ln lv, .fsl da dn dv], .cells true 5 q' qs, .cells true 5 (n+4) (kept (ofBytes (xap (xan cs 0 (n*1))++[UInt8.ofNat ((cA lw i).intOf.toNat / 16777216),UInt8.ofNat ((cA lw i).intOf.toNat / 65536),UInt8.ofNat ((cA lw i).intOf.toNat / 256),UInt8.ofNat ((cA lw i).intOf.toNat / 1)])))]⟩ :=
 xbh (g:=30) (k:=57) (f:=30) (sl:=[1,4,36,37,38]) (ks:=[0,1,3]) (rs:=[]) (ds:=[]) (cxZ xbd) xeo (q:=qNs [0,3,0,0,0,0,0,0,0,0,0,0,0,5,1]) (c:=(cnT::cnT::cnT::cnT::cnT::cnT::cnT::cnT::cnT::cnT::cnT::cnT::cnF::[])) (cq:=[true,true,AV.plainL lw,true,AV.plainL lv,AV.plainL dv,true,AV.plainL qs,true,AV.plainL (kept (ofBytes (xap (xan cs 0 (n*1))++[UInt8.ofNat ((cA lw i).intOf.toNat / 16777216),UInt8.ofNat ((cA lw i).intOf.toNat / 65536),UInt8.ofNat ((cA lw i).intOf.toNat / 256),UInt8.ofNat ((cA lw i).intOf.toNat / 1)])))]) (by kernel_rfl) ⟨h0,h1,h2,h3,h4,h5,h6,h7,h8,h9,h10,h11,h12,trivial⟩ (xci ⟨rfl,rfl,h13,rfl,h14,h15,rfl,h16,rfl,h17,trivial⟩) (by kernel_rfl) (by kernel_rfl) (by kernel_rfl) (by kernel_rfl) (by kernel_rfl)
theorem wB_2 (op sub pl fi ct:Int) (la:Bool) (ln:Nat) (lv:List AV) (da:Bool) (dn:Nat) (dv:List AV) (q':Nat) (qs:List AV) (n:Nat) (n':Nat) (cs:List AV) (lb:Bool) (lm:Nat) (lw:List AV) (m:Nat) (i:Nat) (h0:(xak (Int.ofNat i) (Int.ofNat m))=true) (h1:((Int.ofNat i).toNat.succ.ble lm)=true) (h2:(lw.length.beq (lm.mul 1))=true) (h3:(Nat.ble 1 (List.drop ((Int.ofNat i).toNat*1) lw).length)=true) (h4:(AV.isInt IntKind.u32 (cA lw i))=true) (h5:((0+n*1).ble n')=true) (h6:(AV.plainL cs)=true) (h7:((xan cs 0 (n*1)).length.beq n)=true) (h8:(u8L (xan cs 0 (n*1)))=true) (h9:(n.ble 1000000000000)=true) (h10:(xbr (Int.ofNat 0) (cA lw i).intOf)=true) (h11:(xak (cA lw i).intOf (Int.ofNat 4294967296))=true) (h12:(xae (AV.int IntKind.u8 op).intOf (Int.ofNat 2))=true) (h13:((Int.ofNat i).toNat.succ.ble dn)=true) (h14:(dv.length.beq (dn.mul 1))=true) (h15:(Nat.ble 1 (List.drop ((Int.ofNat i).toNat*1) dv).length)=true) (h16:((cA dv i).isFsl)=true) (h17:((cA dv i).fslCells.length.beq ((cA dv i).fslLen.mul 1))=true) (h18:((cA dv i).fslLen.beq 0)=false) (h19:(xch 1 (n+4) (cA dv i).fslLen)=true) (h20:((n+4).beq ((n+4)*1))=true) (h21:((cA dv i).fslCells.all AV.isCell)=true) (h22:(AV.plainL lw)=true) (h23:(AV.plainL lv)=true) (h24:(AV.plainL dv)=true) (h25:(AV.plainL qs)=true) (h26:(AV.plainL (kept (ofBytes (xap (xan cs 0 (n*1))++[UInt8.ofNat ((cA lw i).intOf.toNat / 16777216),UInt8.ofNat ((cA lw i).intOf.toNat / 65536),UInt8.ofNat ((cA lw i).intOf.toNat / 256),UInt8.ofNat ((cA lw i).intOf.toNat / 1)]))++(cA dv i).fslCells))=true) :
 xbb Try.prog (xdi tys) 69 2 (xbj (xbg Try.f57 1)) { fr:=xar 69 ([1,4,36,37,38].zip [.ptr (some (0,0)), .slice (some (2,0)) n none, .fsl lb lm lw, .int .i64 (Int.ofNat m), .int .i64 (Int.ofNat i)]),ds:=xdp 0,H:=mkL [.cells true 103 7 [.int .u8 op, .int .u8 sub, .int .u8 pl, .int .u32 fi, .int .u8 ct, .fsl la ln lv, .fsl da dn dv], .cells true 5 q' qs, .cells true 5 n' cs] } (AX.normal) ⟨xar 69 ([1,4,36,37,38].zip [.ptr (some (0,0)), .slice (some (2,0)) (n+4+(cA dv i).fslLen) none, .fsl lb lm lw, .int .i64 (Int.ofNat m), .int .i64 (xaf IntKind.i64 ((Int.ofNat i).add (Int.ofNat 1)))]),xdp 0,mkL [.cells true 103 7 [.int .u8 op, .int .u8 sub, .int .u8 pl, .int .u32 fi, .int .u8 ct, .fsl la ln lv, .fsl da dn dv], .cells true 5 q' qs, .cells true 5 (kept (ofBytes (xap (xan cs 0 (n*1))++[UInt8.ofNat ((cA lw i).intOf.toNat / 16777216),UInt8.ofNat ((cA lw i).intOf.toNat / 65536),UInt8.ofNat ((cA lw i).intOf.toNat / 256),UInt8.ofNat ((cA lw i).intOf.toNat / 1)]))++(cA dv i).fslCells).length (kept (ofBytes (xap (xan cs 0 (n*1))++[UInt8.ofNat ((cA lw i).intOf.toNat / 16777216),UInt8.ofNat ((cA lw i).intOf.toNat / 65536),UInt8.ofNat ((cA lw i).intOf.toNat / 256),UInt8.ofNat ((cA lw i).intOf.toNat / 1)]))++(cA dv i).fslCells)]⟩ :=
 xbh (g:=30) (k:=57) (f:=30) (sl:=[1,4,36,37,38]) (ks:=[0,1,4]) (rs:=[]) (ds:=[]) (cxZ xbd) xeo (q:=qNs [0,3,0,0,0,0,0,0,0,0,0,0,0,5,0,6,0,0,0,0,0,1,0,0,0]) (c:=(cnT::cnT::cnT::cnT::cnT::cnT::cnT::cnT::cnT::cnT::cnT::cnT::cnT::cnT::cnT::cnT::cnT::cnT::cnF::cnT::cnT::cnT::[])) (cq:=[true,true,AV.plainL lw,true,AV.plainL lv,AV.plainL dv,true,AV.plainL qs,true,AV.plainL (kept (ofBytes (xap (xan cs 0 (n*1))++[UInt8.ofNat ((cA lw i).intOf.toNat / 16777216),UInt8.ofNat ((cA lw i).intOf.toNat / 65536),UInt8.ofNat ((cA lw i).intOf.toNat / 256),UInt8.ofNat ((cA lw i).intOf.toNat / 1)]))++(cA dv i).fslCells)]) (by kernel_rfl) ⟨h0,h1,h2,h3,h4,h5,h6,h7,h8,h9,h10,h11,h12,h13,h14,h15,h16,h17,h18,h19,h20,h21,trivial⟩ (xci ⟨rfl,rfl,h22,rfl,h23,h24,rfl,h25,rfl,h26,trivial⟩) (by kernel_rfl) (by kernel_rfl) (by kernel_rfl) (by kernel_rfl) (by kernel_rfl)
def ww0:List AV × List Blk → Option (List Bool × AX × List AV × List Blk):=fun x=>match x with
 | ([.ptr (some (0,0)), .slice (some (1,0)) n none, .fsl lb lm lw, .int .i64 (.ofNat m), .int .i64 (.ofNat i)],[.cells true 103 7 [.int .u8 op, .int .u8 sub, .int .u8 pl, .int .u32 fi, .int .u8 ct, .fsl la ln lv, .fsl da dn dv], .cells true 5 n' cs]) =>
  some ([u8L cs,Nat.beq cs.length n,Nat.beq n' n,isU .u32 lw,Nat.beq lw.length lm,Nat.beq m lm,Nat.beq i 0,Nat.ble 1 lm,Nat.ble lm 16,Nat.ble n 1000,AV.plainL lv,isD dv,Nat.beq dv.length dn,xqt op lm dn dv], .normal,
   [.ptr (some (0,0)), .slice (some (2,0)) (kept (n+xda op lm)) none, .fsl lb lm lw, .int .i64 (Int.ofNat lm), .int .i64 (Int.ofNat lm)],[.cells true 103 7 [.int .u8 op, .int .u8 sub, .int .u8 pl, .int .u32 fi, .int .u8 ct, .fsl la ln lv, .fsl da dn dv], .cells true 5 n' cs, .cells true 5 (kept (n+xda op lm)) (kept (ofBytes (xap cs++xbw op (xbt lw) (xjd dv))))])
 | _=>none
def wwL:ZLT:=⟨69,xbg Try.f57 1,[1,4,36,37,38],0,[], .leaf ww0⟩
def wwE (op sub pl fi ct:Int) (la:Bool) (ln:Nat) (lv:List AV) (da:Bool) (ds:List (Bool × List UInt8)) (w:List UInt8) (lb:Bool) (zs:List UInt32) (i:Nat):ZSt:=match i with
 | 0=>([.ptr (some (0,0)), .slice (some (1,0)) w.length none, .fsl lb zs.length (xbs .u32 zs), .int .i64 (Int.ofNat zs.length), .int .i64 (Int.ofNat 0)],[.cells true 103 7 [.int .u8 op, .int .u8 sub, .int .u8 pl, .int .u32 fi, .int .u8 ct, .fsl la ln lv, .fsl da ds.length (xcu ds)], .cells true 5 w.length (ofBytes w)])
 | j+1=>([.ptr (some (0,0)), .slice (some (2,0)) (w.length+xda op (j+1)) none, .fsl lb zs.length (xbs .u32 zs), .int .i64 (Int.ofNat zs.length), .int .i64 (Int.ofNat (j+1))],[.cells true 103 7 [.int .u8 op, .int .u8 sub, .int .u8 pl, .int .u32 fi, .int .u8 ct, .fsl la ln lv, .fsl da ds.length (xcu ds)], .cells true 5 w.length (ofBytes w), .cells true 5 (w.length+xda op (j+1)) (ofBytes (w++xbw op (zs.take (j+1)) (ds.map Prod.snd)))])
theorem wwE_some (op sub pl fi ct:Int) (la:Bool) (ln:Nat) (lv:List AV) (da:Bool) (ds:List (Bool × List UInt8)) (w:List UInt8) (lb:Bool) (zs:List UInt32) (i:Nat) (h:i ≠ 0):wwE op sub pl fi ct la ln lv da ds w lb zs i=([.ptr (some (0,0)), .slice (some (2,0)) (w.length+xda op i) none, .fsl lb zs.length (xbs .u32 zs), .int .i64 (Int.ofNat zs.length), .int .i64 (Int.ofNat i)],[.cells true 103 7 [.int .u8 op, .int .u8 sub, .int .u8 pl, .int .u32 fi, .int .u8 ct, .fsl la ln lv, .fsl da ds.length (xcu ds)], .cells true 5 w.length (ofBytes w), .cells true 5 (w.length+xda op i) (ofBytes (w++xbw op (zs.take i) (ds.map Prod.snd)))]):=by
 cases i with
 | zero=>exact absurd rfl h
 | succ j=>rfl
theorem wwL_ok:wwL.OK Try.prog (xdi tys) (xbz tys) 1:=by
 · intro vs bs conds X vs' bs' h hc hin
   have h:ww0 (vs,bs)=some (conds,X,vs',bs'):=h
   unfold ww0 at h
   split at h
   · rename_i n lb lm lw m i op sub pl fi ct la ln lv da dn dv n' cs he
     injection he with he1 he2
     subst he1;subst he2
     injection h with h;injection h with e1 h;injection h with e2 h;injection h with e3 e4
     subst e1;subst e2;subst e3;subst e4
     simp only [xah] at hc
     obtain ⟨c1,c2,c3,c4,c5,c6,c7,c8,c9,c10,p2,c11,c12,c13,_⟩:=hc
     obtain ⟨w,rfl⟩:=xdr.1 c1
     obtain ⟨zs,rfl⟩:=xcj.1 c4
     obtain ⟨ds,rfl⟩:=xgk.1 c11
     have c2:=xaj c2
     have c3:=xaj c3
     have c5:=xaj c5
     have c6:=xaj c6
     have c7:=xaj c7
     have c12:=xaj c12
     rw [xad] at c2
     rw [xag] at c5
     rw [xay] at c12
     subst c3;subst c6;subst c7;subst c2;subst c5;subst c12
     have c8:=Nat.le_of_ble_eq_true c8
     have c9:=Nat.le_of_ble_eq_true c9
     have c10:=Nat.le_of_ble_eq_true c10
     have c13:op=2 → zs.length=ds.length∧okD xdd (xcu ds)=true:=of_decide_eq_true c13
     rw [xab,xab,xal,xba]
     have ed:xjd (xcu ds)=ds.map Prod.snd:=by unfold xjd;rw [xcw]
     rw [ed]
     have h440:op=2 → ∀ (i:Nat) (d:List UInt8),(ds.map Prod.snd)[i]? = some d → d.length=440:=by
      intro ho i d hd
      rw [List.getElem?_map,Option.map_eq_some_iff] at hd
      obtain ⟨x,hx,rfl⟩:=hd
      exact xaj (xnx (c13 ho).2 hx)
     have key:=xbb.loop (P:=Try.prog) (cx:=xdi tys) (nn:=69) (n0:=2) (b:=xbj (xbg Try.f57 1)) (fun q:{i:Nat // i ≤ zs.length}=>(wwL.at ww0).st (wwE op sub pl fi ct la ln lv da ds w lb zs q.1))
      (fun q=>(.exit 1,(wwL.at ww0).st (wwE op sub pl fi ct la ln lv da ds w lb zs (zs.length)))) (fun q=>zs.length - q.1) (fun q=>by
      obtain ⟨i,hi⟩:=q
      simp only
      by_cases hlt:i < zs.length
      · refine .inl ⟨⟨i+1,hlt⟩,?_,trivial,by simp only;omega⟩
        have k0:xak (Int.ofNat i) (Int.ofNat (zs.length))=true:=by rw [xat];exact decide_eq_true (by show (i:Int) < ((zs.length:Nat):Int);omega)
        have hw:xaf .i64 ((Int.ofNat i).add (Int.ofNat 1))=Int.ofNat (i+1):=xbe .i64 (i+1) (by show _ < 9223372036854775808;omega)
        have z0:(Int.ofNat i).toNat=i:=rfl
        obtain ⟨x,hx⟩:∃ x,zs[i]? = some x:=⟨_,List.getElem?_eq_getElem hlt⟩
        have e1:(xbp (List.drop i (xbs .u32 zs)) 0).getD AV.undef=.int .u32 (x.toNat:Int):=by
         have:=xpv .u32 zs i x hx
         rwa [show (Int.ofNat i).toNat*1=i from Nat.mul_one i] at this
        have tk:zs.take (i+1)=zs.take i++[x]:=by rw [List.take_add_one,hx];rfl
        have tl:(zs.take i).length=i:=by rw [List.length_take];omega
        have g0:=u32_ge x
        have g1:=u32_lt x
        have e6:=xaw .u32 zs
        have e7:=xbv ds
        have p4:(xdf 4 x.toNat).length=4:=xcv 4 _
        have pb:[UInt8.ofNat (x.toNat / 16777216),UInt8.ofNat (x.toNat / 65536),UInt8.ofNat (x.toNat / 256),UInt8.ofNat (x.toNat / 1)]=xdf 4 x.toNat:=rfl
        have bl:(xbw op (zs.take i) (ds.map Prod.snd)).length=xda op i:=by
         have:=xgt op (zs.take i) (ds.map Prod.snd) (fun h=>by have:=(c13 h).1;rw [List.length_map];omega) (fun h i d _ hd=>h440 h i d hd)
         rw [tl] at this;exact this
        have sb:xda op i ≤ 444*i:=by unfold xda;split <;> omega
        have rc:∀ (L:List UInt8) (n:Nat),L.length=n → xan (ofBytes L) 0 n=ofBytes L:=fun L n h=>xfl L n h
        have it:(x.toNat:Int).toNat=x.toNat:=rfl
        cases i with
        | zero =>
         have wl:(w).length=w.length:=by rfl
         have rw0:xan (ofBytes w) 0 w.length=ofBytes w:=rc _ _ wl
         by_cases ho:op=2
         · have k2:xae op (Int.ofNat 2)=true:=by rw [ho];rfl
           obtain ⟨y,hy⟩:∃ y,ds[0]? = some y:=⟨_,List.getElem?_eq_getElem (by have:=(c13 ho).1;omega)⟩
           have y4:y.2.length=440:=xaj (xnx (c13 ho).2 hy)
           have e8:(xbp (List.drop 0 (xcu ds)) 0).getD AV.undef=.fsl y.1 y.2.length (ofBytes y.2):=by
            have:=xjq ds 0 y hy
            rwa [show (Int.ofNat 0).toNat*1=0 from Nat.mul_one _] at this
           have il:0 < ds.length:=(List.getElem?_eq_some_iff.1 hy).1
           have key:=wA_2 op sub pl fi ct la ln lv da ds.length (xcu ds) w.length w.length (ofBytes w) lb zs.length (xbs .u32 zs) zs.length 0
           iterate 26
            replace key:=key (by
             (try simp only [cA,AV.intOf,e1,Nat.zero_add,Nat.mul_one,z0,hw,k0,xab,it,pb,g0,g1,e6,e7,p2,wl,rw0,xal,← xcr,xad,List.length_append,p4,k2,e8,AV.fslCells,AV.fslLen,AV.isFsl,y4])
             first
              | done
              | with_reducible rfl
              | with_reducible exact xaw _ _
              | with_reducible exact xao _
              | with_reducible exact xbc _
              | exact xfb (by omega) (by omega)
              | exact xfz _
              | (simp [cA,e1,xbn,xbq,xag,AV.isInt,xad,wl,xbc,xao];done)
              | (simp [cA,e1,xbn,xbq,xag,AV.isInt,xad,wl];omega)
              | (simp [cA,e8,xbn,xbq,xay,AV.isFsl,AV.fslLen,AV.fslCells,y4,xad];done)
              | (simp [cA,e8,xbn,xbq,xay,AV.isFsl,AV.fslLen,AV.fslCells,y4,xad];omega))
           simp only [cA,AV.intOf,e1,Nat.zero_add,Nat.mul_one,z0,hw,k0,xab,it,pb,g0,g1,e6,e7,p2,wl,rw0,xal,← xcr,xad,List.length_append,p4,k2,e8,AV.fslCells,AV.fslLen,y4] at key
           have eb:ofBytes (w++xdf 4 x.toNat++y.2)=ofBytes (w++xbw op (zs.take (0+1)) (ds.map Prod.snd)):=by
            congr 1
            rw [tk,xdv,tl]
            rw [if_pos ho,List.getElem?_map,hy]
            simp [xbw]
           have en:w.length+4+440=w.length+xda op (0+1):=by (unfold xda;simp only [if_pos ho] <;> omega)
           have key:=key
           (try simp only [List.append_assoc] at key)
           (try simp only [List.append_assoc] at eb)
           rw [eb,en] at key
           exact key
         · have k2:xae op (Int.ofNat 2)=false:=by rw [xaz];exact beq_eq_false_iff_ne.2 ho
           have key:=wA_3 op sub pl fi ct la ln lv da ds.length (xcu ds) w.length w.length (ofBytes w) lb zs.length (xbs .u32 zs) zs.length 0
           iterate 17
            replace key:=key (by
             (try simp only [cA,AV.intOf,e1,Nat.zero_add,Nat.mul_one,z0,hw,k0,xab,it,pb,g0,g1,e6,e7,p2,wl,rw0,xal,← xcr,xad,List.length_append,p4,k2])
             first
              | done
              | with_reducible rfl
              | with_reducible exact xaw _ _
              | with_reducible exact xao _
              | with_reducible exact xbc _
              | exact xfb (by omega) (by omega)
              | exact xfz _
              | (simp [cA,e1,xbn,xbq,xag,AV.isInt,xad,wl,xbc,xao];done)
              | (simp [cA,e1,xbn,xbq,xag,AV.isInt,xad,wl];omega))
           simp only [cA,AV.intOf,e1,Nat.zero_add,Nat.mul_one,z0,hw,k0,xab,it,pb,g0,g1,e6,e7,p2,wl,rw0,xal,← xcr,xad,List.length_append,p4,k2] at key
           have eb:ofBytes (w++xdf 4 x.toNat)=ofBytes (w++xbw op (zs.take (0+1)) (ds.map Prod.snd)):=by
            congr 1
            rw [tk,xdv,tl]
            rw [if_neg ho]
            simp [xbw]
           have en:w.length+4=w.length+xda op (0+1):=by (unfold xda;simp only [if_neg ho] <;> omega)
           (try simp only [List.append_assoc] at key)
           (try simp only [List.append_assoc] at eb)
           rw [eb,en] at key
           exact key
        | succ j =>
         have wl:((w++xbw op (zs.take (j+1)) (ds.map Prod.snd))).length=(w.length+xda op (j+1)):=by rw [List.length_append,bl]
         have rw0:xan (ofBytes (w++xbw op (zs.take (j+1)) (ds.map Prod.snd))) 0 (w.length+xda op (j+1))=ofBytes (w++xbw op (zs.take (j+1)) (ds.map Prod.snd)):=rc _ _ wl
         by_cases ho:op=2
         · have k2:xae op (Int.ofNat 2)=true:=by rw [ho];rfl
           obtain ⟨y,hy⟩:∃ y,ds[(j+1)]? = some y:=⟨_,List.getElem?_eq_getElem (by have:=(c13 ho).1;omega)⟩
           have y4:y.2.length=440:=xaj (xnx (c13 ho).2 hy)
           have e8:(xbp (List.drop (j+1) (xcu ds)) 0).getD AV.undef=.fsl y.1 y.2.length (ofBytes y.2):=by
            have:=xjq ds (j+1) y hy
            rwa [show (Int.ofNat (j+1)).toNat*1=(j+1) from Nat.mul_one _] at this
           have il:(j+1) < ds.length:=(List.getElem?_eq_some_iff.1 hy).1
           have key:=wB_2 op sub pl fi ct la ln lv da ds.length (xcu ds) w.length (ofBytes w) (w.length+xda op (j+1)) (w.length+xda op (j+1)) (ofBytes (w++xbw op (zs.take (j+1)) (ds.map Prod.snd))) lb zs.length (xbs .u32 zs) zs.length (j+1)
           iterate 27
            replace key:=key (by
             (try simp only [cA,AV.intOf,e1,Nat.zero_add,Nat.mul_one,z0,hw,k0,xab,it,pb,g0,g1,e6,e7,p2,wl,rw0,xal,← xcr,xad,List.length_append,p4,k2,e8,AV.fslCells,AV.fslLen,AV.isFsl,y4])
             first
              | done
              | with_reducible rfl
              | with_reducible exact xaw _ _
              | with_reducible exact xao _
              | with_reducible exact xbc _
              | exact xfb (by omega) (by omega)
              | exact xfz _
              | (simp [cA,e1,xbn,xbq,xag,AV.isInt,xad,wl,xbc,xao];done)
              | (simp [cA,e1,xbn,xbq,xag,AV.isInt,xad,wl];omega)
              | (simp [cA,e8,xbn,xbq,xay,AV.isFsl,AV.fslLen,AV.fslCells,y4,xad];done)
              | (simp [cA,e8,xbn,xbq,xay,AV.isFsl,AV.fslLen,AV.fslCells,y4,xad];omega))
           simp only [cA,AV.intOf,e1,Nat.zero_add,Nat.mul_one,z0,hw,k0,xab,it,pb,g0,g1,e6,e7,p2,wl,rw0,xal,← xcr,xad,List.length_append,p4,k2,e8,AV.fslCells,AV.fslLen,y4] at key
           have eb:ofBytes ((w++xbw op (zs.take (j+1)) (ds.map Prod.snd))++xdf 4 x.toNat++y.2)=ofBytes (w++xbw op (zs.take ((j+1)+1)) (ds.map Prod.snd)):=by
            congr 1
            rw [tk,xdv,tl]
            rw [if_pos ho,List.getElem?_map,hy]
            simp [List.append_assoc]
           have en:(w.length+xda op (j+1))+4+440=w.length+xda op ((j+1)+1):=by (unfold xda;simp only [if_pos ho] <;> omega)
           have key:=key
           (try simp only [List.append_assoc] at key)
           (try simp only [List.append_assoc] at eb)
           rw [eb,en] at key
           exact key
         · have k2:xae op (Int.ofNat 2)=false:=by rw [xaz];exact beq_eq_false_iff_ne.2 ho
           have key:=wB_3 op sub pl fi ct la ln lv da ds.length (xcu ds) w.length (ofBytes w) (w.length+xda op (j+1)) (w.length+xda op (j+1)) (ofBytes (w++xbw op (zs.take (j+1)) (ds.map Prod.snd))) lb zs.length (xbs .u32 zs) zs.length (j+1)
           iterate 18
            replace key:=key (by
             (try simp only [cA,AV.intOf,e1,Nat.zero_add,Nat.mul_one,z0,hw,k0,xab,it,pb,g0,g1,e6,e7,p2,wl,rw0,xal,← xcr,xad,List.length_append,p4,k2])
             first
              | done
              | with_reducible rfl
              | with_reducible exact xaw _ _
              | with_reducible exact xao _
              | with_reducible exact xbc _
              | exact xfb (by omega) (by omega)
              | exact xfz _
              | (simp [cA,e1,xbn,xbq,xag,AV.isInt,xad,wl,xbc,xao];done)
              | (simp [cA,e1,xbn,xbq,xag,AV.isInt,xad,wl];omega))
           simp only [cA,AV.intOf,e1,Nat.zero_add,Nat.mul_one,z0,hw,k0,xab,it,pb,g0,g1,e6,e7,p2,wl,rw0,xal,← xcr,xad,List.length_append,p4,k2] at key
           have eb:ofBytes ((w++xbw op (zs.take (j+1)) (ds.map Prod.snd))++xdf 4 x.toNat)=ofBytes (w++xbw op (zs.take ((j+1)+1)) (ds.map Prod.snd)):=by
            congr 1
            rw [tk,xdv,tl]
            rw [if_neg ho]
            simp [List.append_assoc]
           have en:(w.length+xda op (j+1))+4=w.length+xda op ((j+1)+1):=by (unfold xda;simp only [if_neg ho] <;> omega)
           (try simp only [List.append_assoc] at key)
           (try simp only [List.append_assoc] at eb)
           rw [eb,en] at key
           exact key
      · have hi:zs.length=i:=by omega
        subst hi
        refine .inr ⟨?_,by simp⟩
        have k0:xak (Int.ofNat (zs.length)) (Int.ofNat (zs.length))=false:=by rw [xat];exact decide_eq_false (by show ¬ ((zs.length:Nat):Int) < ((zs.length:Nat):Int);omega)
        rw [wwE_some op sub pl fi ct la ln lv da ds w lb zs _ (by omega)]
        exact wB_e op sub pl fi ct la ln lv da ds.length (xcu ds) w.length (ofBytes w) (w.length+xda op zs.length) (w.length+xda op zs.length) (ofBytes (w++xbw op (zs.take zs.length) (ds.map Prod.snd))) lb zs.length (xbs .u32 zs) zs.length zs.length k0 (xaw _ _) p2 (xbv _) (xao _) (xao _)) ⟨0,Nat.zero_le _⟩
     rw [wwE_some op sub pl fi ct la ln lv da ds w lb zs zs.length (by omega),List.take_length] at key
     exact xbb.block 1 key
   · cases h
end Go.Proofs.Ytecncappdnhbaaa
end
end
