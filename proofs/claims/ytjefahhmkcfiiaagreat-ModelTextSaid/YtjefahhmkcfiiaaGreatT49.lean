/- A part of the proof of this seat's statements, by an abstract machine: what each operation does to values, and what the law's functions compute. Conditions: as each law says. -/
import Derived.Test.YtjefahhmkcfiiaaGreatT43
import Derived.Test.YtjefahhmkcfiiaaGreatT45
section
namespace Go.Proofs.YtjefahhmkcfiiaaGreat
open Go.AM
set_option maxHeartbeats 1000000
set_option maxRecDepth 10000
attribute [local irreducible] za
def jL(l:List Int):Nat:=(ZF za l).length
theorem kH(a b:List Int):jL (a++b)=jL a+jL b:=by unfold jL ZF;rw[List.flatMap_append,List.length_append]
theorem ue:∀l:List Int,l.length≤jL l
 | []=>Nat.zero_le _
 |x::l=>by
  have ih:=ue l
  have h:=uE x
  have hp:0< (qj za 8 x).length:=List.length_pos_iff.2 h
  have e:jL (x::l)=(qj za 8 x).length+jL l:=by unfold jL ZF;rw[List.flatMap_cons,List.length_append]
  rw[e,List.length_cons];omega
theorem uY(l:List Int):jL (zZ za l)=jL l:=by
 have h:ky za (zZ za l)=ky za l:=zbj zlN l
 have:=congrArg List.length h
 unfold ky at this
 rw[xC,xC]at this
 exact this
theorem zaS {P R:List Int}(h1:zZ za (P++R)=zZ za P++zZ za R)(h2:zZ za (P++R)=P++R):zZ za P=P∧zZ za R=R:=by
 have e:zZ za P++zZ za R=P++R:=h1.symm.trans h2
 have d1:=uY P
 rcases Nat.lt_trichotomy (zZ za P).length P.length with q|q|q
 ·exfalso
  have hp:P=zZ za P++P.drop (zZ za P).length:=by
   have:=congrArg (List.take (zZ za P).length) e
   rw[List.take_left',List.take_append_of_le_length (by omega)]at this
   ·conv=>lhs;rw[←List.take_append_drop (zZ za P).length P]
    rw[←this]
   ·rfl
  have:=congrArg jL hp
  rw[kH,d1]at this
  have g:=ue (P.drop (zZ za P).length)
  rw[List.length_drop]at g
  omega
 ·exact List.append_inj e q
 ·exfalso
  have hp:zZ za P=P++(zZ za P).drop P.length:=by
   have:=congrArg (List.take P.length) e
   rw[List.take_append_of_le_length (by omega),List.take_left]at this
   conv=>lhs;rw[←List.take_append_drop P.length (zZ za P)]
   rw[this]
  have:=congrArg jL hp
  rw[kH,d1]at this
  have g:=ue ((zZ za P).drop P.length)
  rw[List.length_drop]at g
  omega
theorem JF(l:List Int):∀n,jI l n=0∨Qr (l.getD (jI l n) 0)=true
 |0=>.inl rfl
 |n+1=>by
  rw[jI]
  split
  ·rename_i h;exact .inr h
  ·exact JF l n
theorem ziw {l:List Int} {f:Nat}(_:f≤l.length):qU l f=0∨(qU l f<f∧Qr (l.getD (qU l f) 0)=true):=by
 unfold qU
 split
 ·exact .inl rfl
 ·have h1:=JF l (f-1)
  have h2:=Kw l (f-1)
  rcases h1 with h1|h1
  ·exact .inl h1
  ·exact .inr ⟨by omega,h1⟩
theorem zaY(l:List Int):∀n k,k+n=l.length→zaJ l n k=l.length∨(zaJ l n k<l.length∧Qr (l.getD (zaJ l n k) 0)=true)
 |0,k,h=>.inl (by rw[zaJ];omega)
 |n+1,k,h=>by
  rw[zaJ]
  split
  ·rename_i hs;exact .inr ⟨by omega,hs⟩
  ·exact zaY l n (k+1) (by omega)
theorem zmn {l:List Int} {t:Nat}(ht:t≤l.length):onL l t=l.length∨(onL l t<l.length∧Qr (l.getD (onL l t) 0)=true):=zaY l _ t (by omega)
theorem Ka {l:List Int} {k:Nat}(h:k<l.length):l.drop k=l.getD k 0::l.drop (k+1):=by
 rw[List.drop_eq_getElem_cons h,List.getD_eq_getElem?_getD,List.getElem?_eq_getElem h];rfl
theorem Vz {l:List Int} {o:Nat}(h:o=l.length∨(o<l.length∧Qr (l.getD o 0)=true))(M:List Int):zZ za (M++l.drop o)=zZ za M++zZ za (l.drop o):=by
 have hn:zZ za []=[]:=by decide+kernel
 rcases h with rfl|⟨h1,h2⟩
 ·rw[List.drop_length,List.append_nil,hn,List.append_nil]
 ·rw[Ka h1];exact Wn h2 M _
theorem JS {l:List Int}(hl:zZ za l=l) {f t:Nat}(hft:f≤t)(ht:t≤l.length)(ins:List Int):zD l f t ins=zZ za (l.take f++(ins++l.drop t)):=by
 have hn:zZ za []=[]:=by decide+kernel
 have hb:=xB l f
 have ho:=VA l ht
 have sb:=ziw (l:=l) (f:=f) (by omega)
 have so:=zmn (l:=l) ht
 unfold zD yM
 generalize qU l f=b at hb sb⊢
 generalize onL l t=o at ho so⊢
 have hQ:zZ za (l.drop o)=l.drop o:=by
  have h1:=Vz so (l.take o)
  rw[List.take_append_drop]at h1
  exact(zaS (P:=l.take o) (R:=l.drop o) (by rw[List.take_append_drop];exact h1) (by rw[List.take_append_drop];exact hl)).2
 have hA:cut l (b:Nat) (f:Nat)=(l.take f).drop b:=by
  unfold cut;rw[Int.toNat_natCast,Int.toNat_natCast,List.drop_take]
 have hB:cut l (t:Nat) (o:Nat)=(l.drop t).take (o-t):=by
  unfold cut;rw[Int.toNat_natCast,Int.toNat_natCast]
 rw[hA,hB]
 obtain⟨M,hM⟩:∃M,M=(l.take f).drop b++(ins++(l.drop t).take (o-t)):=⟨_,rfl⟩
 rw[←hM]
 have hW:l.take f++(ins++l.drop t)=l.take b++(M++l.drop o):=by
  have e1:l.take f=l.take b++(l.take f).drop b:=by
   conv=>lhs;rw[←List.take_append_drop b (l.take f)]
   rw[List.take_take,Nat.min_eq_left hb]
  have e2:l.drop t=(l.drop t).take (o-t)++l.drop o:=by
   conv=>lhs;rw[←List.take_append_drop (o-t) (l.drop t)]
   rw[List.drop_drop]
   congr 2;omega
  rw[hM]
  conv=>lhs;rw[e1,e2]
  simp only[List.append_assoc]
 rw[hW]
 rcases sb with rfl|⟨b1,b2⟩
 ·rw[List.take_zero,List.nil_append,List.nil_append,Vz so,hQ]
 ·have bl:b<l.length:=by omega
  have hP:zZ za (l.take b)=l.take b:=by
   have h1:=Wn b2 (l.take b) (l.drop (b+1))
   rw[←Ka bl]at h1
   exact(zaS h1 (by rw[List.take_append_drop];exact hl)).1
  have hM1:∃M',M=l.getD b 0::M':=by
   rw[hM,List.drop_take,Ka bl]
   obtain⟨n,hn⟩:∃n,f-b=n+1:=⟨f-b-1,by omega⟩
   rw[hn]
   exact⟨_,rfl⟩
  obtain⟨M',hM'⟩:=hM1
  have h2:zZ za (l.take b++(M++l.drop o))=zZ za (l.take b)++zZ za (M++l.drop o):=by
   rw[hM',List.cons_append];exact Wn b2 _ _
  rw[h2,hP,Vz so,hQ]
end Go.Proofs.YtjefahhmkcfiiaaGreat
end
section
namespace Go.Proofs.YtjefahhmkcfiiaaGreat
open Go.AM
set_option maxHeartbeats 4000000
set_option maxRecDepth 10000
attribute [local irreducible] za
theorem zpP [Gi](n:Int):∃m:Nat,m≤3∧IntKind.i64.wrap (BitVec.ofInt IntKind.i64.bits n&&& BitVec.ofInt IntKind.i64.bits 3).toNat=(m:Int):=by
 have h:(BitVec.ofInt IntKind.i64.bits n&&& BitVec.ofInt IntKind.i64.bits 3).toNat≤3:=by
  have e:(BitVec.ofInt IntKind.i64.bits 3).toNat=3:=rfl
  rw[BitVec.toNat_and,e]
  exact Nat.and_le_right
 exact⟨_,h,wrap64 (by omega) (by omega)⟩
theorem zkT(l:List Int) {a b:Nat}(hab:a≤b):jL (l.take a)+jL (l.drop b)≤jL l:=by
 have e:l=l.take a++((l.drop a).take (b-a)++l.drop b):=by
  have e2:(l.drop a).take (b-a)++l.drop b=l.drop a:=by
   have:l.drop b=(l.drop a).drop (b-a):=by rw[List.drop_drop];congr 1;omega
   rw[this,List.take_append_drop]
  rw[e2,List.take_append_drop]
 have:=congrArg jL e
 rw[kH,kH]at this
 omega
theorem YL {l:List Int} {L:List (List Int)}(hl:Ln l L)(hnf:zZ za l=l) {d:Nat}(hd:jL l≤d)(hdd:d+45≤60000) {a b:Nat}(hab:a≤b)(hb:b≤l.length)(pa:plc L (kf L (a:Nat))=a)(pb:plc L (kf L (b:Nat))=b) {ks:List Int}(hk:ks.length≤15)(_:∀x∈ks,zB x):
  yh l a b ks=ux l a b ks∧(ux l a b ks).l=zZ za (l.take a++(ks++l.drop b))∧zZ za (ux l a b ks).l=(ux l a b ks).l∧jL (ux l a b ks).l≤d+45:=by
 have e1:zD l a b ks=zZ za (l.take a++(ks++l.drop b)):=JS hnf hab hb ks
 have e2:=zkT l hab
 have e3:jL ks≤3*ks.length:=yC ks
 have e4:jL (zD l a b ks)≤d+45:=by rw[e1,uY,kH,kH];omega
 have e5:=ue (zD l a b ks)
 have hs:=hl.sum
 have hok:okT (zL za l) a b=true:=by
  rw[←hl.eq]
  exact decide_eq_true ⟨by omega,by omega,by omega,by omega,by omega⟩
 refine⟨?_,e1,?_,e4⟩
 ·unfold yh
  rw[if_pos hok]
  simp only[Int.toNat_natCast]
  rw[if_pos (by omega)]
 ·show zZ za (zD l a b ks)=zD l a b ks
  rw[e1,Ky]
end Go.Proofs.YtjefahhmkcfiiaaGreat
end
