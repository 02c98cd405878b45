/- A part of this seat's proofs, by an abstract machine. Conditions: each law's. -/
import Derived.Test.YtfjdbbpimklecaaGreatDoorV36
import Derived.Test.YtfjdbbpimklecaaGreatDoorV31
import Derived.Test.YtfjdbbpimklecaaGreatDoorRows
import Derived.Test.YtfjdbbpimklecaaGreatDoorV34
import Derived.Test.YtfjdbbpimklecaaGreatDoorV28
import Derived.ProofKit
import Derived.LaidMore
import Derived.Lay
import Derived.OpenShut
import Derived.Stop.Joined
import Derived.Stop.LaidErr
import Derived.Lib.LaidU8
import Derived.Test.YtfjdbbpimklecaaGreatDoorV33
import Derived.Test.YtfjdbbpimklecaaGreatDoorV35
set_option maxHeartbeats 4000000
set_option maxRecDepth 100000
namespace Go.Proofs.YtfjdbbpimklecaaGreatDoor
section
open Go.AM
def dg2(b:UInt8):Bool:=dgt b || b==59
def qR(a:List UInt8):Bool:=decide (1≤a.length)&&decide (a.length≤4)&&a.all dgt&&!decide (a.getD 0 0=48)
def uz(q:List UInt8)(x:UInt8):Option AOp:=
 if x=72 then if(qt q 59).2.2=true∧qR (qt q 59).1=true∧qR (qt q 59).2.1=true then some ⟨2,dgn (qt q 59).1-1,dgn (qt q 59).2.1-1,[]⟩else none
 else if(qt q 59).2.2=true then none
 else if ¬(q=[]∨qR q=true)then none
 else if x=75 then if q=[]then some ⟨3,0,0,[]⟩else none
 else if x=74 then if q=[50]then some ⟨4,0,0,[]⟩else none
 else if q=[49]then none
 else if x=67 then some ⟨8,if q=[]then 1 else dgn q,0,[]⟩
 else if x=68 then some ⟨9,if q=[]then 1 else dgn q,0,[]⟩
 else if x=65 then some ⟨10,if q=[]then 1 else dgn q,0,[]⟩
 else if x=66 then some ⟨11,if q=[]then 1 else dgn q,0,[]⟩
 else none
def wq(r:List UInt8):AOp×Nat:=
 if(r.takeWhile dg2).length<r.length∧(r.takeWhile dg2).length≤16 then match uz (r.takeWhile dg2) (r.getD (r.takeWhile dg2).length 0)with
  |some o=>(o,(r.takeWhile dg2).length+3)
  |none=>qf
 else qf
theorem zbR {α:Type}(p:α→Bool):∀(n:Nat) (l:List α),(l.take n).takeWhile p=(l.takeWhile p).take n
 |0,l=>by simp
 |n+1,[]=>by simp
 |n+1,x::l=>by
  rw[List.take_succ_cons,List.takeWhile_cons,List.takeWhile_cons]
  split
  ·rw[List.take_succ_cons,zbR p n l]
  ·simp
theorem zez(r:List UInt8)(i:Nat):dgs r i=((r.drop i).takeWhile dgt).take 5:=zbR _ _ _
theorem zhD(a b:UInt8)(r:List UInt8)(i:Nat):dgs (a::b::r) (i+2)=dgs r i:=rfl
theorem zeU(a b:UInt8)(r:List UInt8)(i:Nat):q8 (a::b::r) (i+2)=q8 r i:=by
 unfold q8
 rw[zhD]
 simp
theorem zeR(a b:UInt8)(r:List UInt8)(i:Nat):qk (a::b::r) (i+2)=qk r i+2:=by
 unfold qk
 rw[zhD]
 omega
theorem zg3(a b:UInt8)(r:List UInt8)(i:Nat):zB (a::b::r) (i+2)=zB r i:=by
 unfold zB;simp
theorem zcs(q:List UInt8)(h:∀b∈q,dg2 b=true):q.all dgt=true∨∃d e,q=d++59::e∧d.all dgt=true:=by
 induction q with
 |nil=>exact .inl rfl
 |cons b q ih=>
  by_cases c:b=59
  ·exact .inr ⟨[],q,by rw[c];rfl,rfl⟩
  ·have hb:dgt b=true:=by
    have:=h b (by simp)
    unfold dg2 at this
    simpa[c]using this
   rcases ih fun x hx=>h x (by simp[hx])with i|⟨d,e,rfl,i⟩
   ·exact .inl (by simp[hb];simpa using i)
   ·exact .inr ⟨b::d,e,rfl,by simp[hb];simpa using i⟩
theorem Ww {α:Type} {p:α→Bool} {d l:List α}(h:d.all p=true)(hl:l.takeWhile p=[]):(d++l).takeWhile p=d:=by
 rw[List.takeWhile_append_of_pos (by simpa using h),hl,List.append_nil]
theorem zi9 {d:List UInt8}(h:d.all dgt=true):Lib.indexByte d 59= -1:=by
 induction d with
 |nil=>rfl
 |cons b d ih=>
  simp only[List.all_cons,Bool.and_eq_true]at h
  have hb:(b==(59:UInt8))=false:=by
   rw[beq_eq_false_iff_ne]
   rintro rfl
   exact absurd h.1 (by decide)
  unfold Lib.indexByte
  rw[hb,ih h.2];rfl
theorem zin {d e:List UInt8}(h:d.all dgt=true):Lib.indexByte (d++59::e) 59=d.length:=by
 induction d with
 |nil=>rfl
 |cons b d ih=>
  simp only[List.all_cons,Bool.and_eq_true]at h
  have hb:(b==(59:UInt8))=false:=by
   rw[beq_eq_false_iff_ne]
   rintro rfl
   exact absurd h.1 (by decide)
  rw[List.cons_append]
  unfold Lib.indexByte
  rw[hb,ih h.2]
  have:((d.length:Int)== -1)=false:=by rw[beq_eq_false_iff_ne];omega
  rw[this]
  simp
theorem zgX {d:List UInt8}(h:d.all dgt=true):qt d 59=(d,[],false):=by
 unfold qt;rw[zi9 h];rfl
theorem zeh {d e:List UInt8}(h:d.all dgt=true):qt (d++59::e) 59=(d,e,true):=by
 unfold qt;rw[zin h,if_pos (by omega)]
 simp
def Kh(r:List UInt8):AOp×Nat:=
 if r.length≤qk r 0 then qf else
 if q8 r 0<0∧0<qk r 0 then qf else
 if zB r (qk r 0)=59 then
  (if q8 r 0<0 then qf else if q8 r (qk r 0+1)<0 then qf else if r.length≤qk r (qk r 0+1)then qf
   else if zB r (qk r (qk r 0+1))≠72 then qf else(⟨2,q8 r 0-1,q8 r (qk r 0+1)-1,[]⟩,qk r (qk r 0+1)+3))
 else if zB r (qk r 0)=75∧q8 r 0<0 then(⟨3,0,0,[]⟩,qk r 0+3)
 else if zB r (qk r 0)=74∧q8 r 0=2 then(⟨4,0,0,[]⟩,qk r 0+3)
 else if q8 r 0=1 then qf
 else Qg (zB r (qk r 0)) (if q8 r 0<0 then 1 else q8 r 0) (qk r 0+3)
theorem Yv(a:UInt8)(r:List UInt8):jn (a::91::r)=Kh r:=by
 unfold jn Kh
 have e1:q8 (a::91::r) 2=q8 r 0:=zeU a 91 r 0
 have e2:qk (a::91::r) 2=qk r 0+2:=zeR a 91 r 0
 have e3:q8 (a::91::r) (qk r 0+2+1)=q8 r (qk r 0+1):=zeU a 91 r (qk r 0+1)
 have e4:qk (a::91::r) (qk r 0+2+1)=qk r (qk r 0+1)+2:=zeR a 91 r (qk r 0+1)
 have e5:∀k,zB (a::91::r) (k+2)=zB r k:=zg3 a 91 r
 have e6:zB (a::91::r) 1=91:=rfl
 have e7:(a::91::r).length=r.length+2:=rfl
 rw[e1,e2,e3,e4,e5,e5,e6,e7]
 by_cases h:r.length=0
 ·rw[if_pos (by omega),if_pos (by omega)]
 ·rw[if_neg (by omega),if_neg (by simp)]
  simp only[Nat.add_le_add_iff_right,show(2<qk r 0+2↔0<qk r 0) by omega,Nat.add_assoc]
theorem Wa {r:List UInt8} {i:Nat} {d:List UInt8}(hd:(r.drop i).takeWhile dgt=d)(h4:d.length≤4):
  qk r i=i+d.length∧q8 r i=if d=[]∨r.getD i 0=48 then -1 else(dgn d:Int):=by
 have e:dgs r i=d:=by rw[zez,hd];exact List.take_of_length_le (by omega)
 unfold qk q8
 rw[e]
 refine⟨rfl,?_⟩
 by_cases c:d=[]
 ·rw[if_pos (.inl (by rw[c];rfl)),if_pos (.inl c)]
 ·have hl:¬d.length=0:=by simpa using c
  by_cases c2:r.getD i 0=48
  ·rw[if_pos (.inr (.inr c2)),if_pos (.inr c2)]
  ·rw[if_neg (by rintro(h|h|h);exact hl h;omega;exact c2 h),if_neg (by rintro(h|h);exact c h;exact c2 h)]
theorem zcz {r:List UInt8} {i:Nat} {d:List UInt8}(hd:(r.drop i).takeWhile dgt=d)(h4:4<d.length):qk r i=i+5∧q8 r i= -1:=by
 have e:dgs r i=d.take 5:=by rw[zez,hd]
 have hl:(d.take 5).length=5:=by rw[List.length_take];omega
 unfold qk q8
 rw[e,hl]
 exact⟨rfl,if_pos (.inr (.inl (by omega)))⟩
theorem x8 {d:List UInt8}(hd:d.all dgt=true)(h4:d.length≤4):qR d=true↔d≠ []∧d.getD 0 0≠48:=by
 unfold qR
 rw[hd]
 cases d with
 |nil=>simp
 |cons b d=>simp at h4⊢;omega
theorem wb {d:List UInt8}(h4:4<d.length):qR d=false:=by
 unfold qR
 have:decide (d.length≤4)=false:=decide_eq_false (by omega)
 rw[this];simp
theorem xM(d t:List UInt8)(k:Nat):(d++t).getD (d.length+k) 0=t.getD k 0:=by
 rw[List.getD_eq_getElem?_getD,List.getD_eq_getElem?_getD,List.getElem?_append_right (by omega),Nat.add_sub_cancel_left]
theorem wc {d t:List UInt8}(h:d≠ []):(d++t).getD 0 0=d.getD 0 0:=by
 cases d with
 |nil=>exact absurd rfl h
 |cons b d=>rfl
theorem zgg {d:List UInt8}(hd:d.all dgt=true)(h0:d≠ [])(h1:d.getD 0 0≠48):1≤dgn d:=by
 cases d with
 |nil=>exact absurd rfl h0
 |cons b d=>
  simp only[List.all_cons,Bool.and_eq_true]at hd
  have hb:=hd.1
  unfold dgt at hb
  simp only[Bool.and_eq_true,decide_eq_true_eq]at hb
  have hn:b.toNat≠48:=fun h=>h1 (UInt8.toNat.inj h)
  have hm:∀(l:List UInt8) (n:Nat),n≤l.foldl (fun n b=>10*n+(b.toNat-48)) n:=by
   intro l
   induction l with
   |nil=>exact fun n=>Nat.le_refl _
   |cons c l ih=>exact fun n=>Nat.le_trans (by show n≤10*n+(c.toNat-48);omega) (ih _)
  have:=hm d (10*0+(b.toNat-48))
  unfold dgn
  rw[List.foldl_cons]
  omega
theorem ZH(r:List UInt8)(k:Nat):zB r k=((r.getD k 0).toNat:Int):=rfl
theorem wF(b c:UInt8):((b.toNat:Int)=(c.toNat:Int))↔b=c:=⟨fun h=>UInt8.toNat.inj (by omega),fun h=>by rw[h]⟩
theorem Y7 {r d:List UInt8}(hd:r.takeWhile dgt=d)(h4:4<d.length):Kh r=qf:=by
 obtain⟨k,n⟩:=zcz (r:=r) (i:=0) (d:=d) hd h4
 unfold Kh
 rw[k,n]
 split
 ·rfl
 ·rw[if_pos ⟨by omega,by omega⟩]
theorem zcO {d w:List UInt8}(hd:d.all dgt=true)(h4:d.length≤4):Kh (d++59::w)=
  if qR d=true∧qR (w.takeWhile dgt)=true∧(w.takeWhile dgt).length<w.length∧w.getD (w.takeWhile dgt).length 0=72 then(⟨2,dgn d-1,dgn (w.takeWhile dgt)-1,[]⟩,d.length+1+(w.takeWhile dgt).length+3)else qf:=by
 have h59:((59:UInt8)::w).takeWhile dgt=[]:=rfl
 have htw:(d++59::w).takeWhile dgt=d:=Ww hd h59
 obtain⟨k,n⟩:=Wa (r:=d++59::w) (i:=0) (d:=d) htw h4
 have hok:=x8 hd h4
 have hlen:(d++59::w).length=d.length+(w.length+1):=by simp
 have hdrop:(d++59::w).drop (d.length+1)=w:=by
  rw[List.drop_append,List.drop_of_length_le (by omega)];simp
 have hg:∀j,(d++59::w).getD (d.length+1+j) 0=w.getD j 0:=fun j=>by
  rw[Nat.add_assoc,xM,Nat.add_comm 1 j];rfl
 have hs:zB (d++59::w) d.length=59:=by
  have:=xM d (59::w) 0
  rw[Nat.add_zero]at this
  rw[ZH,this];rfl
 unfold Kh
 rw[Nat.zero_add]at k
 rw[k,hlen,if_neg (by omega),hs,if_pos rfl]
 by_cases c:qR d=true
 ·have c':=hok.1 c
  have hn:q8 (d++59::w) 0=dgn d:=by rw[n,if_neg (by rintro(h|h);exact c'.1 h;rw[wc c'.1]at h;exact c'.2 h)]
  rw[hn,if_neg (by omega),if_neg (by omega)]
  generalize hd2:w.takeWhile dgt=d2
  have ad2:d2.all dgt=true:=by rw[←hd2];exact List.all_takeWhile
  have h2:((d++59::w).drop (d.length+1)).takeWhile dgt=d2:=by rw[hdrop];exact hd2
  by_cases b4:d2.length≤4
  ·obtain⟨k2,n2⟩:=Wa h2 b4
   have hok2:=x8 ad2 b4
   have hw:d2≠ []→w.getD 0 0=d2.getD 0 0:=fun h=>by
    cases w with
    |nil=>exact absurd hd2.symm h
    |cons b w=>
     rw[List.takeWhile_cons]at hd2
     split at hd2
     ·rw[←hd2];rfl
     ·exact absurd hd2.symm h
   by_cases c2:qR d2=true
   ·have c2':=hok2.1 c2
    have h0:=hg 0
    rw[Nat.add_zero]at h0
    have hm:q8 (d++59::w) (d.length+1)=dgn d2:=by rw[n2,if_neg (by rintro(h|h);exact c2'.1 h;rw[h0,hw c2'.1]at h;exact c2'.2 h)]
    rw[hm,if_neg (by omega),k2]
    by_cases c3:d2.length<w.length
    ·rw[if_neg (by omega)]
     have e5:zB (d++59::w) (d.length+1+d2.length)=((w.getD d2.length 0).toNat:Int):=by rw[ZH,hg]
     rw[e5]
     by_cases c4:w.getD d2.length 0=72
     ·rw[if_neg (by rw[c4];decide),if_pos ⟨c,c2,c3,c4⟩]
     ·rw[if_pos (show((w.getD d2.length 0).toNat:Int)≠72 from fun h=>c4 ((wF _ 72).1 h)),if_neg (fun h=>c4 h.2.2.2)]
    ·rw[if_pos (by omega),if_neg (fun h=>c3 h.2.2.1)]
   ·have hm:q8 (d++59::w) (d.length+1)= -1:=by
     rw[n2,if_pos]
     by_cases z:d2=[]
     ·exact .inl z
     ·right
      have h0:=hg 0
      rw[Nat.add_zero]at h0
      rw[h0,hw z]
      rcases Decidable.em (d2.getD 0 0=48)with y|y
      ·exact y
      ·exact absurd (hok2.2 ⟨z,y⟩) c2
    rw[hm,if_pos (by omega),if_neg (fun h=>c2 h.2.1)]
  ·obtain⟨k2,n2⟩:=zcz h2 (by omega)
   rw[n2,if_pos (by omega),if_neg (fun h=>by have:=wb (d:=d2) (by omega);rw[this]at h;exact absurd h.2.1 (by decide))]
 ·have hn:q8 (d++59::w) 0<0:=by
   rw[n,if_pos]
   ·decide
   ·by_cases z:d=[]
    ·exact .inl z
    ·right
     rw[wc z]
     rcases Decidable.em (d.getD 0 0=48)with y|y
     ·exact y
     ·exact absurd (hok.2 ⟨z,y⟩) c
  refine Eq.trans ?_ (if_neg (fun h=>c h.1)).symm
  split
  ·rfl
  ·first
   |rfl
   |rw[if_pos hn]
theorem yq {e:List UInt8}(h:qR e=true):e.all dgt=true∧e.length≤4∧1≤e.length:=by
 unfold qR at h
 simp only[Bool.and_eq_true,decide_eq_true_eq]at h
 exact⟨h.1.2,h.1.1.2,h.1.1.1⟩
theorem zcl {q:List UInt8}(hq:q.all dgt=true)(h0:q≠ [])(h1:q.getD 0 0≠48)(c:UInt8)(hc:49≤c.toNat∧c.toNat≤57):dgn q=c.toNat-48↔q=[c]:=by
 cases q with
 |nil=>exact absurd rfl h0
 |cons b q=>
  simp only[List.all_cons,Bool.and_eq_true]at hq
  have hb:=hq.1
  unfold dgt at hb
  simp only[Bool.and_eq_true,decide_eq_true_eq]at hb
  have hn:b.toNat≠48:=fun h=>h1 (UInt8.toNat.inj h)
  cases q with
  |nil=>
   unfold dgn
   rw[List.foldl_cons,List.foldl_nil]
   constructor
   ·intro h
    have:b=c:=UInt8.toNat.inj (by omega)
    rw[this]
   ·intro h
    injection h with h
    rw[h];omega
  |cons b2 q=>
   constructor
   ·intro h
    exfalso
    have hm:∀(l:List UInt8) (n:Nat),n≤l.foldl (fun n b=>10*n+(b.toNat-48)) n:=by
     intro l
     induction l with
     |nil=>exact fun n=>Nat.le_refl _
     |cons c l ih=>exact fun n=>Nat.le_trans (by show n≤10*n+(c.toNat-48);omega) (ih _)
    have:=hm q (10*(10*0+(b.toNat-48))+(b2.toNat-48))
    unfold dgn at h
    rw[List.foldl_cons,List.foldl_cons]at h
    omega
   ·intro h
    injection h with _ h
    cases h
theorem kX {r q:List UInt8}(hq:r.takeWhile dg2=q)(h:uz q (r.getD q.length 0)=none):wq r=qf:=by
 unfold wq
 rw[hq,h]
 split<;>rfl
theorem Kv {r q:List UInt8} {o:AOp}(hq:r.takeWhile dg2=q)(h1:q.length<r.length)(h2:q.length≤16)(h:uz q (r.getD q.length 0)=some o):wq r=(o,q.length+3):=by
 unfold wq
 rw[hq,h,if_pos ⟨h1,h2⟩]
theorem vT(r:List UInt8):Kh r=wq r:=by
 obtain⟨q,t,hr,hq,ht⟩:∃q t,r=q++t∧(∀b∈q,dg2 b=true)∧(t=[]∨∃x u,t=x::u∧dg2 x=false):=by
  refine⟨r.takeWhile dg2,r.dropWhile dg2,List.takeWhile_append_dropWhile.symm,fun b hb=>List.all_eq_true.1 List.all_takeWhile b hb,?_⟩
  cases hd:r.dropWhile dg2 with
  |nil=>exact .inl rfl
  |cons x u=>
   have:=List.head_dropWhile_not (p:=dg2) (l:=r) (by rw[hd];simp)
   exact .inr ⟨x,u,rfl,by simpa[hd]using this⟩
 have htd:t.takeWhile dgt=[]:=by
  rcases ht with rfl|⟨x,u,rfl,hx⟩
  ·rfl
  ·have:dgt x=false:=by unfold dg2 at hx;simp at hx;exact hx.1
   rw[List.takeWhile_cons,this];rfl
 have ht2:t.takeWhile dg2=[]:=by
  rcases ht with rfl|⟨x,u,rfl,hx⟩
  ·rfl
  ·rw[List.takeWhile_cons,hx];rfl
 have htq:r.takeWhile dg2=q:=by rw[hr];exact Ww (List.all_eq_true.2 hq) ht2
 have hg:r.getD q.length 0=t.getD 0 0:=by rw[hr];exact xM q t 0
 have hlen:r.length=q.length+t.length:=by rw[hr];simp
 rcases zcs q hq with hA|⟨d,e,rfl,hd⟩
 ·have hcut:=zgX hA
  have htw:r.takeWhile dgt=q:=by rw[hr];exact Ww hA htd
  by_cases h4:q.length≤4
  ·obtain⟨k,n⟩:=Wa (r:=r) (i:=0) (d:=q) htw h4
   rw[Nat.zero_add]at k
   rcases ht with rfl|⟨x,u,rfl,hx⟩
   ·have e1:Kh r=qf:=by
     unfold Kh
     rw[k,if_pos (by rw[hlen];simp)]
    have e2:wq r=qf:=by
     unfold wq
     rw[htq,if_neg (by rw[hlen];simp)]
    rw[e1,e2]
   ·have hl:¬r.length≤q.length:=by rw[hlen];simp
    have hx0:r.getD q.length 0=x:=hg
    have hs:zB r q.length=(x.toNat:Int):=by rw[ZH,hx0]
    have x59:x≠59:=by rintro rfl;exact absurd hx (by decide)
    have xe:∀c:UInt8,((x.toNat:Int)=(c.toNat:Int))↔x=c:=wF x
    have x59':¬(x.toNat:Int)=59:=fun h=>x59 ((xe 59).1 h)
    have hla:∀(n:Int),Qg (x.toNat:Int) n (q.length+3)=if x=67 then(⟨8,n,0,[]⟩,q.length+3)else if x=68 then(⟨9,n,0,[]⟩,q.length+3)else if x=65 then(⟨10,n,0,[]⟩,q.length+3)else if x=66 then(⟨11,n,0,[]⟩,q.length+3)else qf:=fun n=>by
     unfold Qg
     simp only[show((x.toNat:Int)=67↔x=67)from xe 67,show((x.toNat:Int)=68↔x=68)from xe 68,show((x.toNat:Int)=65↔x=65)from xe 65,show((x.toNat:Int)=66↔x=66)from xe 66]
    have e75:((x.toNat:Int)=75)↔x=75:=xe 75
    have e74:((x.toNat:Int)=74)↔x=74:=xe 74
    have fin:∀o:Option AOp,uz q x=o→wq r=match(motive:=Option AOp→AOp×Nat) o with|some o=>(o,q.length+3)|none=>qf:=fun o ho=>by
     cases o with
     |none=>exact kX htq (by rw[hx0];exact ho)
     |some o=>exact Kv htq (by omega) (by omega) (by rw[hx0];exact ho)
    rw[fin _ rfl]
    unfold Kh
    rw[k,if_neg hl,hs,if_neg x59',hla]
    unfold uz
    rw[hcut]
    by_cases hq0:q=[]
    ·have hn:q8 r 0= -1:=by rw[n,if_pos (.inl hq0)]
     rw[hn]
     subst hq0
     by_cases c72:x=72
     ·subst c72;rfl
     by_cases c75:x=75
     ·subst c75;rfl
     by_cases c74:x=74
     ·subst c74;rfl
     by_cases c67:x=67
     ·subst c67;rfl
     by_cases c68:x=68
     ·subst c68;rfl
     by_cases c65:x=65
     ·subst c65;rfl
     by_cases c66:x=66
     ·subst c66;rfl
     simp[c72,c75,c74,c67,c68,c65,c66,e75,e74]
    ·have hok:=x8 hA h4
     by_cases c:qR q=true
     ·have c':=hok.1 c
      have hr0:r.getD 0 0=q.getD 0 0:=by rw[hr];exact wc hq0
      have hn:q8 r 0=dgn q:=by rw[n,if_neg (by rintro(h|h);exact hq0 h;rw[hr0]at h;exact c'.2 h)]
      have hp:=zgg hA hq0 c'.2
      have o2:((dgn q:Int)=2)↔q=[50]:=by
       have:=zcl hA hq0 c'.2 50 (by decide)
       rw[←this]
       show _↔dgn q=2
       omega
      have o1:((dgn q:Int)=1)↔q=[49]:=by
       have:=zcl hA hq0 c'.2 49 (by decide)
       rw[←this]
       show _↔dgn q=1
       omega
      have hneg:¬(dgn q:Int)<0:=by omega
      rw[hn,c]
      clear fin hla n hs
      obtain⟨N,hN⟩:∃N:Int,N=dgn q:=⟨_,rfl⟩
      rw[←hN]at o1 o2 hneg⊢
      simp only[hneg,false_and,and_false,if_false,hq0,false_or,not_true_eq_false,e74]
      by_cases c72:x=72
      ·subst c72
       by_cases z1:N=1<;>simp[z1]
      by_cases c75:x=75
      ·subst c75
       by_cases z1:N=1<;>simp[z1]
      by_cases c74:x=74
      ·subst c74
       by_cases z2:N=2
       ·have:=o2.1 z2
        simp[z2,this]
       ·have:¬q=[50]:=fun h=>z2 (o2.2 h)
        by_cases z1:N=1<;>simp[z1,z2,this]
      by_cases z1:N=1
      ·have:=o1.1 z1
       simp[z1,this,c75,c74,c72]
      ·have:¬q=[49]:=fun h=>z1 (o1.2 h)
       simp only[z1,this,c75,c74,c72,if_false,false_and]
       by_cases c67:x=67
       ·simp[c67]
       by_cases c68:x=68
       ·simp[c68]
       by_cases c65:x=65
       ·simp[c65]
       by_cases c66:x=66
       ·simp[c66]
       simp[c67,c68,c65,c66]
     ·have hn:q8 r 0= -1:=by
       rw[n,if_pos]
       right
       have hr0:r.getD 0 0=q.getD 0 0:=by rw[hr];exact wc hq0
       rw[hr0]
       rcases Decidable.em (q.getD 0 0=48)with y|y
       ·exact y
       ·exact absurd (hok.2 ⟨hq0,y⟩) c
      have hpos:0<q.length:=List.length_pos_iff.2 hq0
      rw[hn,if_pos ⟨by decide,hpos⟩]
      simp[hq0,c]
  ·rw[Y7 htw (by omega)]
   have hb:=wb (d:=q) (by omega)
   have hqn:q≠ []:=by rintro rfl;simp at h4
   refine(kX htq ?_).symm
   unfold uz
   rw[hcut,hb]
   simp[hqn]
 ·have hcut:=zeh (e:=e) hd
  have h59:((59:UInt8)::(e++t)).takeWhile dgt=[]:=rfl
  have hr2:r=d++59::(e++t):=by rw[hr];simp
  have htw:r.takeWhile dgt=d:=by rw[hr2];exact Ww hd h59
  by_cases h4:d.length≤4
  ·have hs:=zcO (w:=e++t) hd h4
   rw[←hr2]at hs
   rw[hs]
   have he:∀b∈e,dg2 b=true:=fun b hb=>hq b (by simp[hb])
   rcases zcs e he with hE|⟨d3,e3,rfl,hd3⟩
   ·have hw:(e++t).takeWhile dgt=e:=Ww hE htd
    have hg2:(e++t).getD e.length 0=t.getD 0 0:=xM e t 0
    rw[hw,hg2]
    by_cases c:qR d=true∧qR e=true∧e.length< (e++t).length∧t.getD 0 0=72
    ·rw[if_pos c]
     have b1:=yq c.1
     have b2:=yq c.2.1
     have hl:(d++59::e).length=d.length+(e.length+1):=by simp
     have hl2:(e++t).length=e.length+t.length:=by simp
     rw[Kv (o:=⟨2,dgn d-1,dgn e-1,[]⟩) htq (by omega) (by omega) (by
      rw[hg,c.2.2.2]
      unfold uz
      rw[hcut,if_pos rfl,if_pos ⟨rfl,c.1,c.2.1⟩])]
     rw[hl,show d.length+1+e.length+3=d.length+(e.length+1)+3 by omega]
    ·rw[if_neg c]
     by_cases ht0:t=[]
     ·unfold wq
      rw[htq,if_neg (by rw[hlen,ht0];simp)]
     ·refine(kX htq ?_).symm
      unfold uz
      rw[hcut,hg]
      have hl:e.length< (e++t).length:=by
       have:0<t.length:=List.length_pos_iff.2 ht0
       simp;omega
      by_cases c72:t.getD 0 0=72
      ·rw[if_pos c72,if_neg (fun h=>c ⟨h.2.1,h.2.2,hl,c72⟩)]
      ·rw[if_neg c72,if_pos rfl]
   ·have hw:(d3++59::e3++t).takeWhile dgt=d3:=by
     rw[List.append_assoc]
     exact Ww hd3 rfl
    have hg2:(d3++59::e3++t).getD d3.length 0=59:=by
     rw[List.append_assoc]
     exact xM d3 (59::e3++t) 0
    rw[hw,hg2,if_neg (fun h=>absurd h.2.2.2 (by decide))]
    have hno:qR (d3++59::e3)≠true:=fun h=>by
     have:=(yq h).1
     rw[List.all_append,List.all_cons]at this
     rw[show dgt (59:UInt8)=false from rfl,Bool.false_and,Bool.and_false]at this
     cases this
    refine(kX htq ?_).symm
    unfold uz
    rw[hcut]
    generalize r.getD _ 0=X
    by_cases c72:X=72
    ·rw[if_pos c72,if_neg (fun h=>hno h.2.2)]
    ·rw[if_neg c72,if_pos rfl]
  ·rw[Y7 htw (by omega)]
   have hb:=wb (d:=d) (by omega)
   refine(kX htq ?_).symm
   unfold uz
   rw[hcut,hb]
   generalize r.getD _ 0=X
   by_cases c72:X=72
   ·rw[if_pos c72,if_neg (fun h=>by cases h.2.1)]
   ·rw[if_neg c72,if_pos rfl]
end
section
open Go.AM Go.RowKit
def xm [Gi]:Prop:=∃te pe,Gi.val 2=some #[Value.iface te pe]
theorem zfE [Gi](hE:xm) {g:Gh} {w:World}(h:ve g w):∃te pe,w.cell? ⟨2,0,none⟩=some (.iface te pe):=by
 obtain⟨te,pe,e⟩:=hE
 obtain⟨_,T,f,hb⟩:=h 2 _ e
 exact⟨te,pe,by simp[World.cell?,hb]⟩
def zkc(s:List UInt8):AV→List (Tok×List AV)→Prop:=fun y rs=>rs=[]∧∃n v,y=.tup [.p (.int .i64 n),.p (.opq v)]∧((Lib.atoi s=some n∧v=.nilIface)∨(Lib.atoi s=none∧n=0∧∃t p,v=.iface t p))
theorem zgU [Gi](hE:xm)(s:List UInt8)(h:s.length≤18):CR Tryz.prog 232 [] [.p (.str s)] [] (zkc s):=by
 refine uh fun w g vs hargs hG=>?_
 simp only[zm,za,zi]at hargs
 obtain⟨v,vs',rfl,rfl,rfl⟩:=hargs
 have hsz:(⟨s.toArray⟩:ByteArray).size=s.length:=by simp[ByteArray.size]
 have hrep:∀(g':Gh) (w':World) (n:Int) (v:Value),za g' w' (.tup [.p (.int .i64 n),.p (.opq v)]) (.tuple #[.int .i64 n,v]):=fun g' w' n v=>by
  simp only[za,zm,zi]
  exact⟨_,rfl,_,_,rfl,rfl,_,_,rfl,rfl,rfl⟩
 cases ha:Lib.atoi s with
 |some m=>
  refine(Tryz.strconv_Atoi ⟨s.toArray⟩ m (by rw[hsz];omega) ha w).mono ?_
  rintro e w' ⟨rfl,t,rfl⟩
  exact⟨_,_,rfl,⟨rfl,m,.nilIface,rfl,.inl ⟨ha,rfl⟩⟩,Lib.bytesWorld_below _ _ _,fun g' _=>hrep _ _ _ _⟩
 |none=>
  obtain⟨te,pe,hc⟩:=zfE hE hG.gl
  refine(Tryz.strconv_Atoi_err ⟨s.toArray⟩ (by rw[hsz];omega) ha (.iface te pe) w hc (.inr ⟨te,pe,rfl⟩)).mono ?_
  rintro e w' ⟨N,rfl,_,_,hB⟩
  exact⟨_,_,rfl,⟨rfl,0,_,rfl,.inr ⟨ha,rfl,_,_,rfl⟩⟩,hB,fun g' _=>hrep _ _ _ _⟩
theorem zhM {G1 G2:Gi} {g:Gh} {w:World} {rs:List (Tok×List AV)}(h: @GS G2 g w rs)(gl: @ve G1 g w): @GS G1 g w rs:= @GS.mk G1 g w rs (@GS.roots G2 g w rs h) (@GS.ur G2 g w rs h) (@GS.ut G2 g w rs h) (@GS.own G2 g w rs h) (@GS.frb G2 g w rs h) gl
theorem zhp {G1 G2:Gi}(hG:∀b arr, @Gi.val G1 b=some arr→ @Gi.val G2 b=some arr) {g:Gh} {w:World}(h: @ve G2 g w): @ve G1 g w:=by
 unfold ve at h⊢
 exact fun b arr hb=>h b arr (hG b arr hb)
theorem zkf {G1 G2:Gi}(hG:∀b arr, @Gi.val G1 b=some arr→ @Gi.val G2 b=some arr) {f:FuncId} {pin:List Tok} {args:List AV} {rs:List (Tok×List AV)} {R:AV→List (Tok×List AV)→Prop}(h: @CR G1 Tryz.prog f pin args rs R): @CR G2 Tryz.prog f pin args rs R:=by
 intro w g vs hargs hS
 refine(h w g vs hargs (zhM hS (zhp hG (@GS.gl G2 g w rs hS)))).mono ?_
 rintro e w' ⟨v,x,rs',g',rfl,hR,hr,hS',hA⟩
 exact⟨v,x,rs',g',rfl,hR,hr,zhM hS' (@ve.aft G2 _ _ _ _ _ (@GS.gl G2 g w rs hS) hA),hA⟩
end
section
open Go.ChangeShapes Go.WideShapes Go.ChangeAt Go.RowKit Go.AM
abbrev yd:List (String×DataW Unit):=Rows.vtermWithinRow.laid
theorem zeK:Tryz.prog.globalNamed "strconv.ErrSyntax" =some 2:=by kernel_rfl
theorem zgY:(Tryz.prog.globals[0]?).map (·.type)=some 368:=by kernel_rfl
@[reducible] def vGi (te : TypeId) (pe : Value) : Gi := ⟨fun b => if b = 0 then some U1 else if b = 2 then some #[.iface te pe] else none⟩
theorem Kp {P:Program} {W:World} {n:String} {g:Nat} {cs:Array Value}(hg:P.globalNamed n=some g)(hv:W.var? P n=some cs):∃T f,W.heap[g]?=some (.cells cs T f):=by
 unfold World.var? at hv
 rw[hg]at hv
 simp only[Option.bind_some]at hv
 split at hv
 ·rename_i cs' T f hh
  injection hv with hv
  subst hv
  exact⟨T,f,hh⟩
 ·cases hv
theorem zdf {W:World} {n:String} {nm:String} {d:DataW Unit} {g T:Nat} {ms:Array (String×TypeId)}(hT:Tryz.prog.underlying T=some (.interface ms))(hg:Tryz.prog.globalNamed n=some g)(ht:(Tryz.prog.globals[g]?).map (·.type)=some T)(h:Lib.VarReads Tryz.prog W n (.iface nm d)):
  ∃te pe,W.var? Tryz.prog n=some #[.iface te pe]:=by
 obtain⟨g',t,cs,fuel,p,hg',ht',hv,hd⟩:=h
 obtain rfl:=Option.some.inj (hg.symm.trans hg')
 obtain rfl:=Option.some.inj (ht.symm.trans ht')
 obtain⟨_,u,v,e,_⟩:=iface_of_trod hT hd
 exact⟨u,v,by rw[hv];congr 1;exact Array.toList_inj.1 e⟩
theorem WY {W:World}(h:laidMetH Tryz.prog yd W):∃te pe, @ve (vGi te pe) ⟨frW W,fun _=>.prot⟩ W:=by
 rw[MakeChecks.laidMetH_plain _ _ _ (by kernel_rfl)]at h
 obtain⟨g,t,cs,fuel,p,hg,ht,hv,hd⟩:=Lib.laidMet.reads h (n:= "internal/strconv.uint64pow10") (d:=Rows.laid_internal_strconv_uint64pow10) (by simp[yd,Rows.vtermWithinRow])
 obtain rfl:=Option.some.inj (zhJ.symm.trans hg)
 obtain rfl:=Option.some.inj (zgY.symm.trans ht)
 have e:=Lib.cells_of_tab (k:=.u64) (zs:=Lib.pow10Tab) (n:=20) (e:=342) (by kernel_rfl) (by kernel_rfl) (by kernel_rfl) (by kernel_rfl) hd
 obtain⟨te,pe,h1⟩:=zdf (W:=W) (n:= "strconv.ErrSyntax") (T:=190) Tryz.underlying190 zeK (by kernel_rfl) (Lib.laidMet.reads h (d:=Rows.laid_strconv_ErrSyntax) (by simp[yd,Rows.vtermWithinRow]))
 refine⟨te,pe,?_⟩
 intro b arr hb
 refine⟨rfl,?_⟩
 by_cases h5:b=0
 ·subst h5
  obtain rfl:U1=arr:=Option.some.inj hb
  have:cs=U1:=by rw[U1,←e]
  subst this
  exact Kp zhJ hv
 ·by_cases h3:b=2
  ·subst h3
   obtain rfl:=Option.some.inj (show some #[Value.iface te pe]=some arr from hb)
   exact Kp zeK h1
  ·simp[Gi.val,h5,h3]at hb
theorem K1(os:Os)(args:Array Value):laidMetH Tryz.prog yd ((World.laidAll Tryz.prog os yd).forCall (fun _ _=>0) ⟨#[],args,[]⟩).memory:=by
 rw[MakeChecks.laidMetH_plain _ _ _ (by kernel_rfl)]
 exact laidMet_laidAll _ (by kernel_rfl) (by kernel_rfl)
theorem zcB(te:TypeId)(pe:Value): @xm (vGi te pe):=⟨te,pe,rfl⟩
theorem zfM(te:TypeId)(pe:Value):∀b arr, @Gi.val doorGi b=some arr→ @Gi.val (vGi te pe) b=some arr:=fun b arr h=>by
 by_cases h0:b=0
 ·subst h0;exact h
 ·simp[Gi.val,h0]at h
section
variable {H:Type} {enc:TypeId×Value→H} {W:World}
abbrev QS:List PV→Prop:=fun xs=>∃x,xs=[x]∧∃s,x=.str s
theorem zcd:kK enc Tryz.prog W 0 (fun _=>true) true 9 QS:=by
 intro fuel cs x h
 obtain⟨xs,⟨s,rfl⟩,r⟩:=Yi (by kernel_rfl) _ _ _ h
 exact⟨_,⟨_,rfl,s,rfl⟩,r⟩
theorem zat:kK enc Tryz.prog W 0 (fun _=>true) true 82 fun xs=>∃x,xs=[x]∧∃l:List (List UInt8),x=.sl 1 (l.map PV.str):=by
 intro fuel cs x h
 obtain⟨xs,⟨es,rfl,he⟩,r⟩:=W3 (e:=9) (QE:=fun el=>∃s:List UInt8,True∧el=PV.str s) (by kernel_rfl) (of_decide_eq_true (by kernel_rfl)) (fun fuel cs x h=>by
  obtain⟨el,v,⟨s,rfl⟩,r⟩:=ziG zcd _ _ _ h
  exact⟨_,v,⟨s,trivial,rfl⟩,r⟩) _ _ _ h
 obtain⟨l,_,rfl⟩:=zaT he
 exact⟨_,⟨_,rfl,l,rfl⟩,r⟩
theorem zcZ:kK enc Tryz.prog W 0 (fun _=>true) true 90 (Ut [QI,QI,QI,QS]):=
 Yp Tryz.underlying90 (by kernel_rfl) ⟨kn,kn,kn,zcd,trivial⟩
theorem zfC {xs:List PV}(h:Ut [QI,QI,QI,QS] xs):∃o:AOp,o.ok∧PV.agg xs=opP o:=by
 obtain⟨_,_,rfl,⟨_,rfl,k,rfl,_⟩,_,_,rfl,⟨_,rfl,a,rfl,h1⟩,_,_,rfl,⟨_,rfl,b,rfl,h2⟩,_,_,rfl,⟨_,rfl,s,rfl⟩,rfl⟩:=h
 exact⟨⟨k,a,b,s⟩,⟨h1.1,h2.1⟩,rfl⟩
theorem zbr:kK enc Tryz.prog W 0 (fun _=>true) true 88 fun xs=>∃x,xs=[x]∧∃l:List AOp,(∀o∈l,o.ok)∧x=vD l:=by
 intro fuel cs x h
 obtain⟨xs,⟨es,rfl,he⟩,r⟩:=W3 (e:=90) (QE:=fun el=>∃o:AOp,o.ok∧el=opP o) (by kernel_rfl) (of_decide_eq_true (by kernel_rfl)) (fun fuel cs x h=>by
  obtain⟨el,v,⟨xs,rfl,q⟩,r⟩:=zie zcZ _ _ _ h
  exact⟨_,v,zfC q,r⟩) _ _ _ h
 obtain⟨l,ql,rfl⟩:=zaT he
 exact⟨_,⟨_,rfl,l,ql,rfl⟩,r⟩
end
end
section
open Go.AM
def vZ(s:List UInt8):List Cl:=(kU zb (jv dz (nb s))).map fun c=>⟨je c,vf c⟩
def Zt(R C:Nat)(t:Trm)(o:AOp):Trm:=
 if o.k=1 then(vZ o.t).foldl (jz R C) t else if o.k=2 then QU R C t o.a o.b else if o.k=3 then {t with l:=UB R C t.r t.c t.l}
 else if o.k=4 then {t with l:=List.replicate (R*C) blk}else if o.k=5 then {t with b:=t.b+1}else if o.k=6 then QU R C t t.r 0
 else if o.k=7 then {yp R C t with f:=false}else if o.k=8 then QU R C t t.r (t.c+o.a)else if o.k=9 then QU R C t t.r (t.c-o.a)
 else if o.k=10 then QU R C t (t.r-o.a) t.c else if o.k=11 then QU R C t (t.r+o.a) t.c else t
def zU(R C:Nat)(t:Trm)(s:List UInt8):Trm:=(tkL s).1.foldl (Zt R C) t
theorem zff(c:List Int):1≤vf c∧vf c≤2:=by unfold vf;split<;>decide
theorem zbO(s:List UInt8):∀g∈vZ s,1≤g.w∧g.w≤2:=fun g hg=>by
 obtain⟨c,_,rfl⟩:=List.mem_map.1 hg
 exact zff c
section
variable {R C:Nat} {B:Int} {t:Trm}
theorem qH.kW(h:qH R C B t)(hC:2≤C)(o:AOp):qH R C (B+1) (Zt R C t o):=by
 have w:∀{u:Trm},qH R C B u→qH R C (B+1) u:=fun k=>⟨k.hl,k.ho,k.hr,k.hc,by have:=k.hb;omega⟩
 have hb:=h.hb
 unfold Zt
 refine zx (fun _=>w (qH.zbE hC _ _ h fun g hg=>by have:=zbO _ g hg;omega)) fun _=>zx (fun _=>w (h.goes _ _)) fun _=>zx (fun _=>w ⟨by simp only;rw[ze5,h.hl],zhk _ _ _ _ _ h.ho,h.hr,h.hc,h.hb⟩) fun _=>
  zx (fun _=>w ⟨by simp,Wf _,h.hr,h.hc,h.hb⟩) fun _=>zx (fun _=>⟨h.hl,h.ho,h.hr,h.hc,by simp only;omega⟩) fun _=>zx (fun _=>w (h.goes _ _)) fun _=>
  zx (fun _=>w ⟨h.feed.hl,h.feed.ho,h.feed.hr,h.feed.hc,h.feed.hb⟩) fun _=>zx (fun _=>w (h.goes _ _)) fun _=>zx (fun _=>w (h.goes _ _)) fun _=>zx (fun _=>w (h.goes _ _)) fun _=>zx (fun _=>w (h.goes _ _)) fun _=>w h
end
theorem qH.all {R C:Nat}(hC:2≤C):∀(l:List AOp) {B:Int} {t:Trm},qH R C B t→qH R C (B+l.length) (l.foldl (Zt R C) t)
 | [],B,t,h=>by simpa using h
 |o::l,B,t,h=>by
  have:=qH.all hC l (h.kW hC o)
  rw[List.foldl_cons,show B+((o::l).length:Int)=B+1+l.length by simp;omega]
  exact this
theorem Ys(R C:Nat)(hR:1≤R)(hC:2≤C):qH R C 0 (Zj R C):=⟨by simp[Zj],Wf _,by simp[Zj];omega,by simp[Zj];omega,by simp[Zj]⟩
def OpB(n:Nat)(o:AOp):Prop:=(-1≤o.a∧o.a≤100000)∧(-1≤o.b∧o.b≤100000)∧o.t.length≤n
theorem w9(n:Nat)(k:Int):OpB n ⟨k,0,0,[]⟩:=⟨by simp,by simp,by simp⟩
theorem ziZ(s:List UInt8)(n:Nat):OpB n (jn s).1:=by
 have N:OpB n qf.1:=w9 n 0
 have b1:=VB s 2
 have b2:=VB s (qk s 2+1)
 unfold jn
 refine zx (Q:=fun e:AOp×Nat=>OpB n e.1) (fun _=>N) fun _=>zx (Q:=fun e:AOp×Nat=>OpB n e.1) (fun _=>N) fun _=>zx (Q:=fun e:AOp×Nat=>OpB n e.1) (fun _=>N) fun h=>zx (Q:=fun e:AOp×Nat=>OpB n e.1) (fun _=>N) fun _=>zx (Q:=fun e:AOp×Nat=>OpB n e.1) (fun _=>?_) fun _=>?_
 ·refine zx (Q:=fun e:AOp×Nat=>OpB n e.1) (fun _=>N) fun _=>zx (Q:=fun e:AOp×Nat=>OpB n e.1) (fun _=>N) fun _=>zx (Q:=fun e:AOp×Nat=>OpB n e.1) (fun _=>N) fun _=>zx (Q:=fun e:AOp×Nat=>OpB n e.1) (fun _=>N) fun _=>?_
  exact⟨by simp only;omega,by simp only;omega,by simp⟩
 ·refine zx (Q:=fun e:AOp×Nat=>OpB n e.1) (fun _=>w9 n 3) fun _=>zx (Q:=fun e:AOp×Nat=>OpB n e.1) (fun _=>w9 n 4) fun _=>zx (Q:=fun e:AOp×Nat=>OpB n e.1) (fun _=>N) fun _=>?_
  have hm: -1≤(if q8 s 2<0 then 1 else q8 s 2)∧(if q8 s 2<0 then 1 else q8 s 2)≤100000:=by split<;>omega
  generalize (if q8 s 2<0 then 1 else q8 s 2)=m at hm
  have D:∀k,OpB n ⟨k,m,0,[]⟩:=fun k=>⟨hm,by simp,by simp⟩
  unfold Qg
  exact zx (Q:=fun e:AOp×Nat=>OpB n e.1) (fun _=>D _) fun _=>zx (Q:=fun e:AOp×Nat=>OpB n e.1) (fun _=>D _) fun _=>zx (Q:=fun e:AOp×Nat=>OpB n e.1) (fun _=>D _) fun _=>zx (Q:=fun e:AOp×Nat=>OpB n e.1) (fun _=>D _) fun _=>N
theorem ziH(s:List UInt8)(i n:Nat):OpB n (ZD s i).1:=by
 unfold ZD
 exact zx (Q:=fun e:AOp×Nat=>OpB n e.1) (fun _=>w9 n 5) fun _=>zx (Q:=fun e:AOp×Nat=>OpB n e.1) (fun _=>w9 n 6) fun _=>zx (Q:=fun e:AOp×Nat=>OpB n e.1) (fun _=>w9 n 7) fun _=>zx (Q:=fun e:AOp×Nat=>OpB n e.1) (fun _=>ziZ _ n) fun _=>w9 n 0
theorem zbg(s:List UInt8):∀(f i:Nat) (out:List AOp),(∀o∈out,OpB s.length o)→∀o∈(QC s f i out).1,OpB s.length o
 |0,_,_,h=>h
 |f+1,i,out,h=>by
  have ha:∀x:AOp,OpB s.length x→∀o∈out++[x],OpB s.length o:=fun x hx o ho=>by
   rcases List.mem_append.1 ho with ho|ho
   ·exact h o ho
   ·rw[List.mem_singleton]at ho;rw[ho];exact hx
  unfold QC
  split
  ·exact h
  ·split
   ·exact zbg s f _ _ (ha _ ⟨by simp,by simp,by simp;omega⟩)
   ·split
    ·simp
    ·exact zbg s f _ _ (ha _ (ziH s i _))
theorem zkC(s:List UInt8):∀o∈(tkL s).1,OpB s.length o:=zbg s _ _ _ (by simp)
theorem UM(s:List UInt8):∀(f i:Nat) (out:List AOp),(QC s f i out).1.length≤out.length+f
 |0,_,_=>by simp[QC]
 |f+1,i,out=>by
  unfold QC
  split
  ·simp
  ·split
   ·have:=UM s f (qu s i) (out++[⟨1,0,0,(s.drop i).take (qu s i-i)⟩])
    simp at this⊢;omega
   ·split
    ·simp
    ·have:=UM s f (i+(ZD s i).2) (out++[(ZD s i).1])
     simp at this⊢;omega
theorem Vp(s:List UInt8):(tkL s).1.length≤s.length:=by have:=UM s s.length 0 [];simpa[tkL]using this
theorem Qz {R C:Nat}(hC:2≤C) {B:Int} {t:Trm}(h:qH R C B t)(s:List UInt8):qH R C (B+s.length) (zU R C t s):=by
 have k:=qH.all hC (tkL s).1 h
 have:=Vp s
 exact⟨k.hl,k.ho,k.hr,k.hc,by have:=k.hb;unfold zU;omega⟩
theorem VG(s:List UInt8):∀(f i:Nat) (out:List AOp),((QC s f i out).2.2=0∧(QC s f i out).2.1=0)∨((QC s f i out).2.2=4∧(QC s f i out).1=[])
 |0,_,_=>.inl ⟨rfl,rfl⟩
 |f+1,i,out=>by
  unfold QC
  split
  ·exact .inl ⟨rfl,rfl⟩
  ·split
   ·exact VG s f _ _
   ·split
    ·exact .inr ⟨rfl,rfl⟩
    ·exact VG s f _ _
theorem VA(s:List UInt8):((tkL s).2.2=0∧(tkL s).2.1=0)∨((tkL s).2.2=4∧(tkL s).1=[]):=VG s _ _ _
end
section
open Go.AM
attribute [local irreducible] zb
theorem zh1(s:List UInt8):∀b∈nb s,b<256:=fun b hb=>by
 obtain⟨c,_,rfl⟩:=List.mem_map.1 hb
 exact UInt8.toNat_lt c
theorem Je:∀(s:List Nat) (d:Dk),DkI d→(∀b∈s,b<256)→∀x∈jv d s,Zd x
 | [],d,_,_=>fun x hx=>by
  unfold jv at hx
  split at hx
  ·cases hx
  ·rw[List.mem_singleton]at hx;rw[hx];unfold vA Zd;omega
 |b::s,d,h,hb=>fun x hx=>by
  have h0:=hb b (by simp)
  have hf:∀x∈(q0 b).2,Zd x:=fun x hx=>by
   unfold q0 at hx
   split at hx
   ·rw[List.mem_singleton]at hx;rw[hx];unfold Zd;omega
   ·split at hx
    ·rw[List.mem_singleton]at hx;rw[hx];unfold vA Zd;omega
    ·cases hx
  rw[Wj]at hx
  rcases List.mem_append.1 hx with hx|hx
  ·have hv:=h.v1
   unfold Qf at hx
   split at hx
   ·exact hf x hx
   ·split at hx
    ·rcases List.mem_cons.1 hx with hx|hx
     ·rw[hx];unfold vA Zd;omega
     ·exact hf x hx
    ·split at hx
     ·rw[List.mem_singleton]at hx;rw[hx];unfold Zd;omega
     ·cases hx
  ·exact Je s _ (h.feed b h0) (fun y hy=>hb y (by simp[hy])) x hx
theorem UG(s:List UInt8)(hs:s.length≤40000):(jv dz (nb s)).length≤80001:=by
 have h:=YI (nb s) dz
 have e:(nb s).length=s.length:=by simp[nb]
 omega
theorem zg5(s:List UInt8)(hs:s.length≤40000):(jv dz (nb s)).length<2^31:=by
 have h:=UG s hs
 omega
theorem zbL(s:List UInt8)(hs:s.length≤40000):Ln (jv dz (nb s)) (kU zb (jv dz (nb s))):=
 Ln.mk' _ (zg5 s hs) (Je _ _ DkI.z (zh1 s))
theorem zhb [Gi] {e:PV}(hT:wA e)(s:List UInt8)(hs:s.length≤40000):CR Tryz.prog 136 [] [.p e,.p (.str s)] [] (is (.p (qQ (vZ s)))):=by
 have h:=zbL s hs
 have hl:(jv dz (nb s)).length≤80001:=UG s hs
 have hd:=zcP s (by omega)
 have hc:=zfA hT _ h.n h.r
 unfold vZ
 generalize jv dz (nb s)=l at*
 generalize kU zb l=L at*
 have hL:=h.cl.len
 rw[h.sum]at hL
 refine walk Tryz.func136 8 [11,12,13] [] [] ?_
 simp (maxSteps:=1000000) [go_sem,Tryz.f136]
 refine zD hd ?_
 simp (maxSteps:=1000000) [go_sem]
 refine zD hc ?_
 simp (maxSteps:=1000000) [go_sem]
 refine loop (fun i:Nat=>i≤L.length) (fun i=>[(5,.os [5] 2 (((L.take i).map fun c=>(⟨je c,vf c⟩:Cl)).map clP)),(7,.zK),(13,.p (.int .i64 i))]) (fun _=>[]) (fun i=>L.length-i) 0 (Nat.zero_le _) (fun i hi=>?_) (h0:=by simp[go_sem,LeS,leV,leR,leA])
 by_cases hil:i<L.length
 ·have hm:=h.mem (List.getElem_mem hil)
  have hne:=h.ne _ (List.getElem_mem hil)
  have gE:=ziF L[i] hne (by omega)
  have gW:=zdu hT L[i] (by omega) hm.2
  have em:=zdS hil
  have st:((L.take i).map fun c=>(⟨je c,vf c⟩:Cl)).map clP++[clP ⟨je L[i],vf L[i]⟩]=((L.take (i+1)).map fun c=>(⟨je c,vf c⟩:Cl)).map clP:=by
   rw[List.take_add_one,List.getElem?_eq_getElem hil,List.map_append,List.map_append];rfl
  have nl:(((L.take i).map fun c=>(⟨je c,vf c⟩:Cl)).map clP).length=i:=by simp;omega
  have w1:IntKind.i64.wrap ((i:Int)+1)=((i+1:Nat):Int):=qD (by omega)
  generalize L[i]=y at hm hne gE gW em st
  generalize je y=ey at gE st
  generalize vf y=wy at gW st
  generalize ((L.take i).map fun c=>(⟨je c,vf c⟩:Cl)).map clP=A at st nl⊢
  simp only[clP]at st
  simp (maxSteps:=1000000) [go_sem,hil,em]
  refine zD gE ?_
  simp (maxSteps:=1000000) [go_sem]
  refine zD gW ?_
  simp (maxSteps:=1000000) [go_sem,w1,st,nl]
  refine⟨by omega,?_⟩
  exact next (i+1) hil (h3:=by show L.length- (i+1)<L.length-i;omega)
 ·obtain rfl:i=L.length:=by omega
  rw[List.take_length]
  simp (maxSteps:=1000000) [go_sem]
  exact ret (hx:=by simp[go_sem,zg,leA,leT])
end
end Go.Proofs.YtfjdbbpimklecaaGreatDoor
