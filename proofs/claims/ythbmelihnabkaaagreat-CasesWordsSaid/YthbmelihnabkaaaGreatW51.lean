/- A part of the proof of this seat's statements, by an abstract machine: what each operation does to values, and what the law's functions compute. Conditions: as each law says. -/
import Derived.Test.YthbmelihnabkaaaGreatW44
import Derived.Test.YthbmelihnabkaaaGreatW47
import Derived.Test.YthbmelihnabkaaaGreatW41
import Derived.Test.YthbmelihnabkaaaGreatW48
section
namespace Go.Proofs.YthbmelihnabkaaaGreat
open Go.AM
set_option maxHeartbeats 4000000
set_option maxRecDepth 10000
attribute [local irreducible] za
theorem zkU [Gi](r:Int):CR Tryz.prog 213 [] [.p (.int .i32 r)] [] (is (.p (.bool (zcT r)))):=by
 refine walk Tryz.func213 3 [] [] [] ?_
 unfold zcT
 by_cases c1:4449≤r
 ·by_cases c2:r≤4469
  ·have e2:r<4470:=by omega
   simp (maxSteps:=1000000) [go_sem,Tryz.f213,c1,c2]
   exact ret (hx:=by simp[go_sem,zd,leA,leT,e2])
  ·have e2:¬r<4470:=by omega
   by_cases c3:4520≤r
   ·have e3:4519<r:=by omega
    by_cases c4:r≤4546
    ·have e4:r<4547:=by omega
     simp (maxSteps:=1000000) [go_sem,Tryz.f213,c1,c2,c3,c4]
     exact ret (hx:=by simp[go_sem,zd,leA,leT,e2,e3,e4])
    ·have e4:¬r<4547:=by omega
     simp (maxSteps:=1000000) [go_sem,Tryz.f213,c1,c2,c3,c4]
     exact ret (hx:=by simp[go_sem,zd,leA,leT,e2,e3,e4])
   ·have e3:¬4519<r:=by omega
    simp (maxSteps:=1000000) [go_sem,Tryz.f213,c1,c2,c3]
    exact ret (hx:=by simp[go_sem,zd,leA,leT,e2,e3])
 ·have c3:¬4520≤r:=by omega
  have e3:¬4519<r:=by omega
  simp (maxSteps:=1000000) [go_sem,Tryz.f213,c1,c3]
  exact ret (hx:=by simp[go_sem,zd,leA,leT,e3])
def KK(l:List Row)(r:Int)(w:Row):Bool:=decide (w.k=2)&&decide (w.b=r)&&!decide (r=0)&&!yk l w.f
theorem zjS(r:Int):Y0 r=za.any (KK za r):=rfl
theorem zfo [Gi](l:List Row)(hl:qX l)(r:Int)(hr:zu r):CR Tryz.prog 212 [] [.p (zJ l),.p (.int .i32 r)] [] (is (.p (.bool (l.any (KK l r))))):=by
 refine walk Tryz.func212 6 [] [] [] ?_
 have hn:=hl.n
 simp (maxSteps:=1000000) [go_sem,Tryz.f212]
 refine loop (fun i:Nat=>i≤l.length∧l.any (KK l r)=(l.drop i).any (KK l r)) (fun i=>[(5,.p (.int .i64 i))]) (fun _=>[]) (fun i=>l.length-i) 0 ⟨Nat.zero_le _,by rw[List.drop_zero]⟩ (fun i hi=>?_)
 obtain⟨i1,i2⟩:=hi
 rw[i2]
 by_cases c:i<l.length
 ·have hd:=List.drop_eq_getElem_cons c
  obtain⟨w,hw⟩:∃w,l[i]=w:=⟨_,rfl⟩
  have em:elemAt (l.map rowP) i=rowP w:=by rw[zt rowP l i c,hw]
  have w1:IntKind.i64.wrap ((i:Int)+1)=((i+1:Nat):Int):=zN (by omega)
  rw[hd,hw,List.any_cons]
  have hml:w∈l:=by rw[←hw];exact List.getElem_mem _
  have w2:IntKind.i64.wrap r=r:=uB hr
  by_cases c1:w.k=2
  ·have hp:=hl.p w hml c1
   have w3:IntKind.i32.wrap w.f=w.f:=ye (by omega)
   by_cases c2:w.b=r
   ·by_cases c3:r=0
    ·have hs:KK l r w=false:=by unfold KK;simp[c3]
     rw[hs,Bool.false_or]
     simp (maxSteps:=1000000) [go_sem,c,em,rowP,c1,c2,c3,w1]
     exact next (i+1) ⟨c,rfl⟩ (h3:=by show l.length- (i+1)<l.length-i;omega)
    ·have ho:=zbq l w.f hl ⟨by omega,by omega⟩
     have hs:KK l r w=!yk l w.f:=by unfold KK;simp[c1,c2,c3]
     rw[hs]
     simp (maxSteps:=1000000) [go_sem,c,em,rowP,c1,c2,c3,w1,w2,w3]
     refine zk ho ?_
     cases yk l w.f with
     |true=>
      simp (maxSteps:=1000000) [go_sem,w1]
      exact next (i+1) ⟨c,rfl⟩ (h3:=by show l.length- (i+1)<l.length-i;omega)
     |false=>
      simp (maxSteps:=1000000) [go_sem]
      exact ret
   ·have hs:KK l r w=false:=by unfold KK;simp[c2]
    rw[hs,Bool.false_or]
    simp (maxSteps:=1000000) [go_sem,c,em,rowP,c1,c2,w1,w2]
    exact next (i+1) ⟨c,rfl⟩ (h3:=by show l.length- (i+1)<l.length-i;omega)
  ·have hs:KK l r w=false:=by unfold KK;simp[c1]
   rw[hs,Bool.false_or]
   simp (maxSteps:=1000000) [go_sem,c,em,rowP,c1,w1]
   exact next (i+1) ⟨c,rfl⟩ (h3:=by show l.length- (i+1)<l.length-i;omega)
 ·obtain rfl:i=l.length:=by omega
  rw[List.drop_length]
  simp (maxSteps:=1000000) [go_sem]
  exact ret
theorem ziB [Gi](r:Int)(hr:zu r):CR Tryz.prog 201 [] [.p (zJ za),.p (.int .i32 r)] [] (is (.p (.int .i64 (qcD r)))):=by
 refine walk Tryz.func201 5 [] [] [] ?_
 have h1:=zbq za r Zr hr
 have h2:=zfo za Zr r hr
 rw[←zjS]at h2
 have h3:=zkU r
 unfold qcD
 simp (maxSteps:=1000000) [go_sem,Tryz.f201]
 refine zk h1 ?_
 cases yk za r with
 |true=>
  simp (maxSteps:=1000000) [go_sem]
  exact ret
 |false=>
  simp (maxSteps:=1000000) [go_sem]
  refine zk h2 ?_
  cases Y0 r with
  |true=>
   simp (maxSteps:=1000000) [go_sem]
   exact ret
  |false=>
   simp (maxSteps:=1000000) [go_sem]
   refine zk h3 ?_
   cases zcT r with
   |true=>
    simp (maxSteps:=1000000) [go_sem]
    exact ret
   |false=>
    simp (maxSteps:=1000000) [go_sem]
    exact ret
theorem Jp [Gi](r:Int)(hr:zu r):CR Tryz.prog 173 [] [.p (zJ za),.p (.int .i32 r)] [] (is (.p (.bool (xl r)))):=by
 refine walk Tryz.func173 6 [] [] [] ?_
 have hf:=zdN za Zr 8 (by omega) r hr
 have hr2:=U5 hr
 have hc1:=kA za r Zr.n hr
 have hc2:=kA za (xD r) Zr.n hr2
 have hq1:=ziB r hr
 have hq2:=ziB (xD r) hr2
 unfold xl
 have h0:=Vq r
 obtain⟨y,l,hy⟩:∃y l,z6 za 8 r=y::l:=by
  cases h:z6 za 8 r with
  |nil=>exact absurd h h0
  |cons x l=>exact⟨_,_,rfl⟩
 have hfd:xD r=y:=by unfold xD;rw[hy];rfl
 rw[hfd]at hc2 hq2⊢
 rw[hy]at hf
 simp (maxSteps:=1000000) [go_sem,Tryz.f173]
 refine zk hf ?_
 have em:elemAt (PV.int .i32 y::l.map fun r=>PV.int .i32 r) 0=.int .i32 y:=rfl
 simp (maxSteps:=1000000) [go_sem,zr,em]
 refine zk hc1 ?_
 by_cases d1:aL za 1 r=0
 ·simp (maxSteps:=1000000) [go_sem,d1]
  refine zk hq1 ?_
  by_cases d2:qcD r=0
  ·simp (maxSteps:=1000000) [go_sem,d2]
   refine zk hc2 ?_
   by_cases d3:aL za 1 y=0
   ·simp (maxSteps:=1000000) [go_sem,d3]
    refine zk hq2 ?_
    simp (maxSteps:=1000000) [go_sem]
    exact ret
   ·simp (maxSteps:=1000000) [go_sem,d3]
    exact ret
  ·simp (maxSteps:=1000000) [go_sem,d2]
   exact ret
 ·simp (maxSteps:=1000000) [go_sem,d1]
  exact ret
end Go.Proofs.YthbmelihnabkaaaGreat
end
section
namespace Go.Proofs.YthbmelihnabkaaaGreat
open Go.AM
set_option maxHeartbeats 4000000
set_option maxRecDepth 10000
attribute [local irreducible] za
def wB(l:List Int):Nat→Nat
 |0=>0
 |n+1=>if xl (l.getD n 0)then n else wB l n
theorem zlS(l:List Int):∀n,wB l (n+1)=ym l n
 |0=>by unfold wB ym;split<;>rfl
 |n+1=>by
  have ih:=zlS l n
  rw[wB,ym]
  split
  ·rfl
  ·exact ih
theorem zlw(l:List Int)(f:Nat):wB l f=ZM l f:=by
 unfold ZM
 split
 ·rename_i h;subst h;rfl
 ·rename_i h
  obtain⟨n,rfl⟩:∃n,f=n+1:=⟨f-1,by omega⟩
  exact zlS l n
theorem zik [Gi](l:List Int)(hn:l.length<2^31)(hr:∀x∈l,zu x)(f t:Nat)(hf:f≤l.length)(ht:t≤l.length):
  CR Tryz.prog 138 [] [.p (zJ za),.p (zh l),.p (.int .i64 f),.p (.int .i64 t)] [] (is (.tup [.p (.int .i64 (ZM l f:Nat)),.p (.int .i64 (onL l t:Nat))])):=by
 refine walk Tryz.func138 13 [] [] [] ?_
 rw[←zlw]
 simp (maxSteps:=1000000) [go_sem,Tryz.f138]
 refine loop (fun i:Nat=>i≤f) (fun i=>[(10,.p (.int .i64 (wB l i:Nat))),(11,.p (.int .i64 i))]) (fun _=>[]) (fun i=>f-i) 0 (Nat.zero_le _) (fun i hi=>?_) (h0:=by simp[go_sem,LeS,leV,leR,leA,wB])
 by_cases c:i<f
 ·have c0:i<l.length:=by omega
  have em:=Qj c0
  have hst:=Jp _ (uK hr c0)
  have w1:IntKind.i64.wrap ((i:Int)+1)=((i+1:Nat):Int):=zN (by omega)
  have hs:wB l (i+1)=if xl (l.getD i 0)then i else wB l i:=rfl
  generalize l.getD i 0=x at em hst hs
  simp (maxSteps:=1000000) [go_sem,c,c0,em]
  refine zk hst ?_
  cases hb:xl x with
  |true=>
   rw[hb,if_pos rfl]at hs
   simp (maxSteps:=1000000) [go_sem,w1]
   exact next (i+1) c (h2:=by simp[go_sem,LeS,leV,leR,leA,hs]) (h3:=by show f- (i+1)<f-i;omega)
  |false=>
   rw[hb,if_neg (by decide)]at hs
   simp (maxSteps:=1000000) [go_sem,w1]
   exact next (i+1) c (h2:=by simp[go_sem,LeS,leV,leR,leA,hs]) (h3:=by show f- (i+1)<f-i;omega)
 ·obtain rfl:i=f:=by omega
  simp (maxSteps:=1000000) [go_sem]
  refine loop (fun k:Nat=>k≤l.length∧onL l k=onL l t) (fun k=>[(12,.p (.int .i64 k))]) (fun _=>[]) (fun k=>l.length-k) t ⟨ht,rfl⟩ (fun k hk=>?_)
  obtain⟨k1,k2⟩:=hk
  rw[←k2]
  by_cases d:k<l.length
  ·have em:=Qj d
   have hst:=Jp _ (uK hr d)
   have w1:IntKind.i64.wrap ((k:Int)+1)=((k+1:Nat):Int):=zN (by omega)
   have hs:=zcd d
   generalize l.getD k 0=x at em hst hs
   rw[hs]
   simp (maxSteps:=1000000) [go_sem,d,em]
   refine zk hst ?_
   cases hb:xl x with
   |true=>
    simp (maxSteps:=1000000) [go_sem]
    exact ret
   |false=>
    simp (maxSteps:=1000000) [go_sem,w1]
    exact next (k+1) ⟨d,rfl⟩ (h3:=by show l.length- (k+1)<l.length-k;omega)
  ·obtain rfl:k=l.length:=by omega
   rw[zge]
   simp (maxSteps:=1000000) [go_sem]
   exact ret
theorem zeR [Gi](l s:List Int)(hl:l.length<2^31)(hs:s.length<2^31)(b o c:Nat)(h1:b≤o)(h2:b≤c)(ho:o≤l.length)(hc:c≤s.length):
  CR Tryz.prog 86 [] [.p (zh l),.p (zh s),.p (.int .i64 b),.p (.int .i64 o),.p (.int .i64 c)] [] (is (.tup [.p (.int .i64 ((jm l s b o c).1:Nat)),.p (.int .i64 ((jm l s b o c).2.1:Nat)),.p (.int .i64 ((jm l s b o c).2.2:Nat))])):=by
 refine walk Tryz.func86 13 [] [] [] ?_
 unfold jm
 simp (maxSteps:=1000000) [go_sem,Tryz.f86]
 refine loop (fun i:Nat=>b≤i∧i≤o∧i≤c∧vt l s (min o c-i) i=vt l s (min o c-b) b) (fun i=>[(2,.p (.int .i64 i))]) (fun _=>[]) (fun i=>o-i) b ⟨Nat.le_refl _,h1,h2,rfl⟩ (fun i hi=>?_)
 obtain⟨i0,i1,i2,i3⟩:=hi
 rw[←i3]
 rcases YQ (l:=l) (s:=s) (i:=i) ho hc with ⟨x,d1,d2,e1,e2,hst⟩|⟨d1,d2,x,y,e1,e2,q,hst⟩|⟨d1,d2,hst⟩|⟨d1,hst⟩
 ·have a1:i<l.length:=by omega
  have a2:i<s.length:=by omega
  have w1:IntKind.i64.wrap ((i:Int)+1)=((i+1:Nat):Int):=zN (by omega)
  rw[hst]
  simp (maxSteps:=1000000) [go_sem,d1,d2,w1,e1,e2,a1,a2]
  exact next (i+1) ⟨by omega,by omega,by omega,rfl⟩ (h3:=by show o- (i+1)<o-i;omega)
 ·have a1:i<l.length:=by omega
  have a2:i<s.length:=by omega
  rw[hst]
  simp (maxSteps:=1000000) [go_sem,d1,d2,e1,e2,a1,a2,q]
  refine loop (fun j:Nat×Nat=>i≤j.1∧j.1≤o∧i≤j.2∧j.2≤c∧Qo l s i j.1 j.2=Qo l s i o c) (fun j=>[(3,.p (.int .i64 j.1)),(4,.p (.int .i64 j.2))]) (fun _=>[]) (fun j=>j.1) (o,c) ⟨i1,Nat.le_refl _,i2,Nat.le_refl _,rfl⟩ (fun j hj=>?_)
  obtain⟨u,v⟩:=j
  obtain⟨j1,j2,j3,j4,j5⟩:=hj
  simp only at j1 j2 j3 j4 j5
  rw[←j5]
  rcases Qe (l:=l) (s:=s) (f:=i) (i:=u) (j:=v) (by omega) (by omega)with ⟨z,u',v',m1,m2,hu,hv,z1,z2,hn⟩|⟨m1,m2,z,z',u',v',hu,hv,z1,z2,z3,hn⟩|⟨m1,m2,hn⟩|⟨m1,hn⟩
  ·have w1:IntKind.i64.wrap ((u:Int)-1)=(u':Int):=zq (by omega) hu
   have w2:IntKind.i64.wrap ((v:Int)-1)=(v':Int):=zq (by omega) hv
   have b1:u'<l.length:=by omega
   have b2:v'<s.length:=by omega
   rw[hn]
   simp (maxSteps:=1000000) [go_sem,m1,m2,w1,w2,z1,z2,b1,b2]
   exact next (u',v') ⟨by show i≤u';omega,by show u'≤o;omega,by show i≤v';omega,by show v'≤c;omega,rfl⟩ (h3:=by show u'<u;omega)
  ·have w1:IntKind.i64.wrap ((u:Int)-1)=(u':Int):=zq (by omega) hu
   have w2:IntKind.i64.wrap ((v:Int)-1)=(v':Int):=zq (by omega) hv
   have b1:u'<l.length:=by omega
   have b2:v'<s.length:=by omega
   rw[hn]
   simp (maxSteps:=1000000) [go_sem,m1,m2,w1,w2,z1,z2,z3,b1,b2]
   exact ret
  ·rw[hn]
   obtain⟨x1,y1,g1⟩:=zx s (IntKind.i64.wrap ((v:Int)-1)).toNat
   obtain⟨x2,y2,g2⟩:=zx l (IntKind.i64.wrap ((u:Int)-1)).toNat
   by_cases g3:x2=x1
   ·simp (maxSteps:=1000000) [go_sem,m1,m2,g1,g2,g3]
    exact ret
   ·simp (maxSteps:=1000000) [go_sem,m1,m2,g1,g2,g3]
    exact ret
  ·rw[hn]
   obtain⟨x1,y1,g1⟩:=zx s (IntKind.i64.wrap ((v:Int)-1)).toNat
   obtain⟨x2,y2,g2⟩:=zx l (IntKind.i64.wrap ((u:Int)-1)).toNat
   by_cases g3:x2=x1
   ·simp (maxSteps:=1000000) [go_sem,m1,g1,g2,g3]
    exact ret
   ·simp (maxSteps:=1000000) [go_sem,m1,g1,g2,g3]
    exact ret
 ·obtain⟨x1,y1,g1⟩:=zx s i
  obtain⟨x2,y2,g2⟩:=zx l i
  rw[hst]
  by_cases g3:x2=x1
  ·simp (maxSteps:=1000000) [go_sem,d1,d2,g1,g2,g3]
   refine loop (fun j:Nat×Nat=>i≤j.1∧j.1≤o∧i≤j.2∧j.2≤c∧Qo l s i j.1 j.2=Qo l s i o c) (fun j=>[(3,.p (.int .i64 j.1)),(4,.p (.int .i64 j.2))]) (fun _=>[]) (fun j=>j.1) (o,c) ⟨i1,Nat.le_refl _,i2,Nat.le_refl _,rfl⟩ (fun j hj=>?_)
   obtain⟨u,v⟩:=j
   obtain⟨j1,j2,j3,j4,j5⟩:=hj
   simp only at j1 j2 j3 j4 j5
   rw[←j5]
   rcases Qe (l:=l) (s:=s) (f:=i) (i:=u) (j:=v) (by omega) (by omega)with ⟨z,u',v',m1,m2,hu,hv,z1,z2,hn⟩|⟨m1,m2,z,z',u',v',hu,hv,z1,z2,z3,hn⟩|⟨m1,m2,hn⟩|⟨m1,hn⟩
   ·have w1:IntKind.i64.wrap ((u:Int)-1)=(u':Int):=zq (by omega) hu
    have w2:IntKind.i64.wrap ((v:Int)-1)=(v':Int):=zq (by omega) hv
    have b1:u'<l.length:=by omega
    have b2:v'<s.length:=by omega
    rw[hn]
    simp (maxSteps:=1000000) [go_sem,m1,m2,w1,w2,z1,z2,b1,b2]
    exact next (u',v') ⟨by show i≤u';omega,by show u'≤o;omega,by show i≤v';omega,by show v'≤c;omega,rfl⟩ (h3:=by show u'<u;omega)
   ·have w1:IntKind.i64.wrap ((u:Int)-1)=(u':Int):=zq (by omega) hu
    have w2:IntKind.i64.wrap ((v:Int)-1)=(v':Int):=zq (by omega) hv
    have b1:u'<l.length:=by omega
    have b2:v'<s.length:=by omega
    rw[hn]
    simp (maxSteps:=1000000) [go_sem,m1,m2,w1,w2,z1,z2,z3,b1,b2]
    exact ret
   ·rw[hn]
    obtain⟨x1,y1,g1⟩:=zx s (IntKind.i64.wrap ((v:Int)-1)).toNat
    obtain⟨x2,y2,g2⟩:=zx l (IntKind.i64.wrap ((u:Int)-1)).toNat
    by_cases g3:x2=x1
    ·simp (maxSteps:=1000000) [go_sem,m1,m2,g1,g2,g3]
     exact ret
    ·simp (maxSteps:=1000000) [go_sem,m1,m2,g1,g2,g3]
     exact ret
   ·rw[hn]
    obtain⟨x1,y1,g1⟩:=zx s (IntKind.i64.wrap ((v:Int)-1)).toNat
    obtain⟨x2,y2,g2⟩:=zx l (IntKind.i64.wrap ((u:Int)-1)).toNat
    by_cases g3:x2=x1
    ·simp (maxSteps:=1000000) [go_sem,m1,g1,g2,g3]
     exact ret
    ·simp (maxSteps:=1000000) [go_sem,m1,g1,g2,g3]
     exact ret
  ·simp (maxSteps:=1000000) [go_sem,d1,d2,g1,g2,g3]
   refine loop (fun j:Nat×Nat=>i≤j.1∧j.1≤o∧i≤j.2∧j.2≤c∧Qo l s i j.1 j.2=Qo l s i o c) (fun j=>[(3,.p (.int .i64 j.1)),(4,.p (.int .i64 j.2))]) (fun _=>[]) (fun j=>j.1) (o,c) ⟨i1,Nat.le_refl _,i2,Nat.le_refl _,rfl⟩ (fun j hj=>?_)
   obtain⟨u,v⟩:=j
   obtain⟨j1,j2,j3,j4,j5⟩:=hj
   simp only at j1 j2 j3 j4 j5
   rw[←j5]
   rcases Qe (l:=l) (s:=s) (f:=i) (i:=u) (j:=v) (by omega) (by omega)with ⟨z,u',v',m1,m2,hu,hv,z1,z2,hn⟩|⟨m1,m2,z,z',u',v',hu,hv,z1,z2,z3,hn⟩|⟨m1,m2,hn⟩|⟨m1,hn⟩
   ·have w1:IntKind.i64.wrap ((u:Int)-1)=(u':Int):=zq (by omega) hu
    have w2:IntKind.i64.wrap ((v:Int)-1)=(v':Int):=zq (by omega) hv
    have b1:u'<l.length:=by omega
    have b2:v'<s.length:=by omega
    rw[hn]
    simp (maxSteps:=1000000) [go_sem,m1,m2,w1,w2,z1,z2,b1,b2]
    exact next (u',v') ⟨by show i≤u';omega,by show u'≤o;omega,by show i≤v';omega,by show v'≤c;omega,rfl⟩ (h3:=by show u'<u;omega)
   ·have w1:IntKind.i64.wrap ((u:Int)-1)=(u':Int):=zq (by omega) hu
    have w2:IntKind.i64.wrap ((v:Int)-1)=(v':Int):=zq (by omega) hv
    have b1:u'<l.length:=by omega
    have b2:v'<s.length:=by omega
    rw[hn]
    simp (maxSteps:=1000000) [go_sem,m1,m2,w1,w2,z1,z2,z3,b1,b2]
    exact ret
   ·rw[hn]
    obtain⟨x1,y1,g1⟩:=zx s (IntKind.i64.wrap ((v:Int)-1)).toNat
    obtain⟨x2,y2,g2⟩:=zx l (IntKind.i64.wrap ((u:Int)-1)).toNat
    by_cases g3:x2=x1
    ·simp (maxSteps:=1000000) [go_sem,m1,m2,g1,g2,g3]
     exact ret
    ·simp (maxSteps:=1000000) [go_sem,m1,m2,g1,g2,g3]
     exact ret
   ·rw[hn]
    obtain⟨x1,y1,g1⟩:=zx s (IntKind.i64.wrap ((v:Int)-1)).toNat
    obtain⟨x2,y2,g2⟩:=zx l (IntKind.i64.wrap ((u:Int)-1)).toNat
    by_cases g3:x2=x1
    ·simp (maxSteps:=1000000) [go_sem,m1,g1,g2,g3]
     exact ret
    ·simp (maxSteps:=1000000) [go_sem,m1,g1,g2,g3]
     exact ret
 ·obtain⟨x1,y1,g1⟩:=zx s i
  obtain⟨x2,y2,g2⟩:=zx l i
  rw[hst]
  by_cases g3:x2=x1
  ·simp (maxSteps:=1000000) [go_sem,d1,g1,g2,g3]
   refine loop (fun j:Nat×Nat=>i≤j.1∧j.1≤o∧i≤j.2∧j.2≤c∧Qo l s i j.1 j.2=Qo l s i o c) (fun j=>[(3,.p (.int .i64 j.1)),(4,.p (.int .i64 j.2))]) (fun _=>[]) (fun j=>j.1) (o,c) ⟨i1,Nat.le_refl _,i2,Nat.le_refl _,rfl⟩ (fun j hj=>?_)
   obtain⟨u,v⟩:=j
   obtain⟨j1,j2,j3,j4,j5⟩:=hj
   simp only at j1 j2 j3 j4 j5
   rw[←j5]
   rcases Qe (l:=l) (s:=s) (f:=i) (i:=u) (j:=v) (by omega) (by omega)with ⟨z,u',v',m1,m2,hu,hv,z1,z2,hn⟩|⟨m1,m2,z,z',u',v',hu,hv,z1,z2,z3,hn⟩|⟨m1,m2,hn⟩|⟨m1,hn⟩
   ·have w1:IntKind.i64.wrap ((u:Int)-1)=(u':Int):=zq (by omega) hu
    have w2:IntKind.i64.wrap ((v:Int)-1)=(v':Int):=zq (by omega) hv
    have b1:u'<l.length:=by omega
    have b2:v'<s.length:=by omega
    rw[hn]
    simp (maxSteps:=1000000) [go_sem,m1,m2,w1,w2,z1,z2,b1,b2]
    exact next (u',v') ⟨by show i≤u';omega,by show u'≤o;omega,by show i≤v';omega,by show v'≤c;omega,rfl⟩ (h3:=by show u'<u;omega)
   ·have w1:IntKind.i64.wrap ((u:Int)-1)=(u':Int):=zq (by omega) hu
    have w2:IntKind.i64.wrap ((v:Int)-1)=(v':Int):=zq (by omega) hv
    have b1:u'<l.length:=by omega
    have b2:v'<s.length:=by omega
    rw[hn]
    simp (maxSteps:=1000000) [go_sem,m1,m2,w1,w2,z1,z2,z3,b1,b2]
    exact ret
   ·rw[hn]
    obtain⟨x1,y1,g1⟩:=zx s (IntKind.i64.wrap ((v:Int)-1)).toNat
    obtain⟨x2,y2,g2⟩:=zx l (IntKind.i64.wrap ((u:Int)-1)).toNat
    by_cases g3:x2=x1
    ·simp (maxSteps:=1000000) [go_sem,m1,m2,g1,g2,g3]
     exact ret
    ·simp (maxSteps:=1000000) [go_sem,m1,m2,g1,g2,g3]
     exact ret
   ·rw[hn]
    obtain⟨x1,y1,g1⟩:=zx s (IntKind.i64.wrap ((v:Int)-1)).toNat
    obtain⟨x2,y2,g2⟩:=zx l (IntKind.i64.wrap ((u:Int)-1)).toNat
    by_cases g3:x2=x1
    ·simp (maxSteps:=1000000) [go_sem,m1,g1,g2,g3]
     exact ret
    ·simp (maxSteps:=1000000) [go_sem,m1,g1,g2,g3]
     exact ret
  ·simp (maxSteps:=1000000) [go_sem,d1,g1,g2,g3]
   refine loop (fun j:Nat×Nat=>i≤j.1∧j.1≤o∧i≤j.2∧j.2≤c∧Qo l s i j.1 j.2=Qo l s i o c) (fun j=>[(3,.p (.int .i64 j.1)),(4,.p (.int .i64 j.2))]) (fun _=>[]) (fun j=>j.1) (o,c) ⟨i1,Nat.le_refl _,i2,Nat.le_refl _,rfl⟩ (fun j hj=>?_)
   obtain⟨u,v⟩:=j
   obtain⟨j1,j2,j3,j4,j5⟩:=hj
   simp only at j1 j2 j3 j4 j5
   rw[←j5]
   rcases Qe (l:=l) (s:=s) (f:=i) (i:=u) (j:=v) (by omega) (by omega)with ⟨z,u',v',m1,m2,hu,hv,z1,z2,hn⟩|⟨m1,m2,z,z',u',v',hu,hv,z1,z2,z3,hn⟩|⟨m1,m2,hn⟩|⟨m1,hn⟩
   ·have w1:IntKind.i64.wrap ((u:Int)-1)=(u':Int):=zq (by omega) hu
    have w2:IntKind.i64.wrap ((v:Int)-1)=(v':Int):=zq (by omega) hv
    have b1:u'<l.length:=by omega
    have b2:v'<s.length:=by omega
    rw[hn]
    simp (maxSteps:=1000000) [go_sem,m1,m2,w1,w2,z1,z2,b1,b2]
    exact next (u',v') ⟨by show i≤u';omega,by show u'≤o;omega,by show i≤v';omega,by show v'≤c;omega,rfl⟩ (h3:=by show u'<u;omega)
   ·have w1:IntKind.i64.wrap ((u:Int)-1)=(u':Int):=zq (by omega) hu
    have w2:IntKind.i64.wrap ((v:Int)-1)=(v':Int):=zq (by omega) hv
    have b1:u'<l.length:=by omega
    have b2:v'<s.length:=by omega
    rw[hn]
    simp (maxSteps:=1000000) [go_sem,m1,m2,w1,w2,z1,z2,z3,b1,b2]
    exact ret
   ·rw[hn]
    obtain⟨x1,y1,g1⟩:=zx s (IntKind.i64.wrap ((v:Int)-1)).toNat
    obtain⟨x2,y2,g2⟩:=zx l (IntKind.i64.wrap ((u:Int)-1)).toNat
    by_cases g3:x2=x1
    ·simp (maxSteps:=1000000) [go_sem,m1,m2,g1,g2,g3]
     exact ret
    ·simp (maxSteps:=1000000) [go_sem,m1,m2,g1,g2,g3]
     exact ret
   ·rw[hn]
    obtain⟨x1,y1,g1⟩:=zx s (IntKind.i64.wrap ((v:Int)-1)).toNat
    obtain⟨x2,y2,g2⟩:=zx l (IntKind.i64.wrap ((u:Int)-1)).toNat
    by_cases g3:x2=x1
    ·simp (maxSteps:=1000000) [go_sem,m1,g1,g2,g3]
     exact ret
    ·simp (maxSteps:=1000000) [go_sem,m1,g1,g2,g3]
     exact ret
end Go.Proofs.YthbmelihnabkaaaGreat
end
section
namespace Go.Proofs.YthbmelihnabkaaaGreat
open Go.AM
set_option maxHeartbeats 4000000
set_option maxRecDepth 10000
attribute [local irreducible] za
theorem Yf [Gi](l:List Int)(hn:l.length≤65536)(hr:∀x∈l,zu x)(f t:Nat)(hft:f≤t)(ht:t≤l.length)(ins:List Int)(hi:ins.length≤65536)(hri:∀x∈ins,zu x):
  CR Tryz.prog 84 [] [.p (zJ za),.p (zh l),.p (.int .i64 f),.p (.int .i64 t),.p (zh ins)] []
   (is (.tup [.p (zh (zX l f t ins)),.p (.int .i64 (ZM l f:Nat)),.p (.int .i64 (onL l t:Nat)),.p (.int .i64 (ZM l f+(vE l f t ins).length:Nat))])):=by
 refine walk Tryz.func84 17 [] [2,3] [] ?_
 have h1:=zik l (by omega) hr f t (by omega) ht
 have b1:=vW l f
 have b2:=K9 l ht
 unfold zX vE
 obtain⟨b,hb⟩:∃b,ZM l f=b:=⟨_,rfl⟩
 obtain⟨o,ho⟩:∃o,onL l t=o:=⟨_,rfl⟩
 rw[hb,ho]at h1
 rw[hb]at b1⊢
 rw[ho]at b2⊢
 obtain⟨A,hA⟩:∃A,A=cut l (b:Nat) (f:Nat):=⟨_,rfl⟩
 obtain⟨B,hB⟩:∃B,B=cut l (t:Nat) (o:Nat):=⟨_,rfl⟩
 have rA:∀x∈A,zu x:=by rw[hA];exact Qp (ZA hr _) _
 have rB:∀x∈B,zu x:=by rw[hB];exact Qp (ZA hr _) _
 have lA:A.length≤65536:=by rw[hA,cut,List.length_take,List.length_drop];omega
 have lB:B.length≤65536:=by rw[hB,cut,List.length_take,List.length_drop];omega
 have j1:=Yq A ins B (by omega)
 have rM:=q8 rA (q8 hri rB)
 have lM:(A++(ins++B)).length<2^20:=by simp only[List.length_append];omega
 have f0:qN za (cut l (b:Nat) (f:Nat)++(ins++cut l (t:Nat) (o:Nat)))=qN za (A++(ins++B)):=by rw[hA,hB]
 rw[f0]
 have jN:=w9 za Zr (A++(ins++B)) lM rM
 have lX:=Qm (A++(ins++B))
 have lM2:(A++(ins++B)).length≤196608:=by simp only[List.length_append];omega
 generalize A++(ins++B)=M at j1 jN lX lM rM lM2⊢
 generalize qN za M=X at jN lX⊢
 have lP:(l.take b).length≤65536:=by rw[List.length_take];omega
 have lQ:(l.drop o).length≤65536:=by rw[List.length_drop];omega
 have j2:=Yq (l.take b) X (l.drop o) (by omega)
 simp (maxSteps:=1000000) [go_sem,Tryz.f84]
 refine zk h1 ?_
 simp (maxSteps:=1000000) [go_sem]
 refine⟨⟨b1,by omega⟩,b2,?_⟩
 rw[←hA,←hB]
 refine Qt 139 j1 ?_
 simp (maxSteps:=1000000) [go_sem]
 refine Qt 12 jN ?_
 simp (maxSteps:=1000000) [go_sem]
 have k1:cut l 0 (b:Nat)=l.take b:=by simp[cut]
 have k2:cut l (o:Nat) (l.length:Nat)=l.drop o:=by simp[cut,List.take_of_length_le]
 refine⟨by omega,b2.2,?_⟩
 rw[k1,k2]
 refine Qt 139 j2 ?_
 have w1:IntKind.i64.wrap ((b:Int)+X.length)=((b+X.length:Nat):Int):=by rw[wrap64 (by omega) (by omega)];omega
 simp (maxSteps:=1000000) [go_sem,w1]
 exact ret
theorem zg2 {L:List (List Int)}(h:ClL L) {i:Nat}(hb:isB L i=true):plc L (cnt (pl L) i)=i:=by
 have hk:=vf L i
 have e:(plc L (kf L i):Int)=i:=of_decide_eq_true hb
 have e2:=Vc h hk
 rw[e]at e2
 rw[e2];omega
theorem ziy [Gi] {l:List Int} {L:List (List Int)}(h:Ln l L)(p:Nat)(hp:p≤l.length):CR Tryz.prog 85 [] [.p (zJ za),.p (zh l),.p (.int .i64 p)] [] (is (.p (.int .i64 (plc L (cnt (pl L) p):Nat)))):=by
 refine walk Tryz.func85 7 [] [] [] ?_
 have hs:=h.sum
 have hn:=h.n
 simp (maxSteps:=1000000) [go_sem,Tryz.f85]
 refine loop (fun i:Nat=>i≤l.length∧cnt (pl L) i=cnt (pl L) p) (fun i=>[(2,.p (.int .i64 i))]) (fun _=>[]) (fun i=>l.length-i) p ⟨hp,rfl⟩ (fun i hi=>?_)
 obtain⟨i1,i2⟩:=hi
 rw[←i2]
 by_cases c:i<l.length
 ·have hb:=kg h i
  have w1:IntKind.i64.wrap ((i:Int)+1)=((i+1:Nat):Int):=zN (by omega)
  have hc:=zmf h.cl (i:=i) (by omega)
  simp (maxSteps:=1000000) [go_sem,c]
  refine zk hb ?_
  cases hv:isB L i with
  |true=>
   have e:=zg2 h.cl hv
   rw[e]
   simp (maxSteps:=1000000) [go_sem]
   exact ret
  |false=>
   rw[hv,if_neg (by decide),Nat.add_zero]at hc
   simp (maxSteps:=1000000) [go_sem,w1]
   exact next (i+1) ⟨c,by rw[←hc];rfl⟩ (h3:=by show l.length- (i+1)<l.length-i;omega)
 ·obtain rfl:i=l.length:=by omega
  have e:plc L (cnt (pl L) (l.length:Nat))=l.length:=by
   have e2:=Vc h.cl (k:=L.length) (Nat.le_refl _)
   rw[qP,hs]at e2
   rw[e2,qP,hs]
  rw[e]
  simp (maxSteps:=1000000) [go_sem]
  exact ret
end Go.Proofs.YthbmelihnabkaaaGreat
end
section
namespace Go.Proofs.YthbmelihnabkaaaGreat
open Go.AM
set_option maxHeartbeats 4000000
set_option maxRecDepth 10000
attribute [local irreducible] za
def UX:PV:=.agg [.int .i64 0,.opq (.slice none 0 0),.opq (.slice none 0 0)]
def uS(N:List Int)(x:PV)(k c:Int):AV:=.tup [.p (zh N),.p x,.p (.int .i64 k),.p (.int .i64 c)]
theorem Yj [Gi] {l:List Int} {L:List (List Int)}(h:Ln l L)(f t:Int)(ins:List Int)(hb:okT L f t=false):
  CR Tryz.prog 36 [] [.p (zJ za),.p (zh l),.p (.int .i64 f),.p (.int .i64 t),.p (zh ins)] [] (is (uS l UX 0 2)):=by
 have gf:=kg h f
 have gt:=kg h t
 have hs:=h.sum
 unfold okT at hb
 have hb:=of_decide_eq_false hb
 refine walk Tryz.func36 26 [] [] [] ?_
 by_cases c0:f<0
 ·simp (maxSteps:=1000000) [go_sem,Tryz.f36,c0]
  exact ret (hx:=by simp[go_sem,zd,leA,leT,leP,uS,UX])
 ·by_cases c1:t<f
  ·simp (maxSteps:=1000000) [go_sem,Tryz.f36,c0,c1]
   exact ret (hx:=by simp[go_sem,zd,leA,leT,leP,uS,UX])
  ·by_cases c2:(l.length:Int)<t
   ·simp (maxSteps:=1000000) [go_sem,Tryz.f36,c0,c1,c2]
    exact ret (hx:=by simp[go_sem,zd,leA,leT,leP,uS,UX])
   ·simp (maxSteps:=1000000) [go_sem,Tryz.f36,c0,c1,c2]
    refine zk gf ?_
    cases c3:isB L f with
    |false=>
     simp (maxSteps:=1000000) [go_sem]
     exact ret (hx:=by simp[go_sem,zd,leA,leT,leP,uS,UX])
    |true=>
     simp (maxSteps:=1000000) [go_sem]
     refine zk gt ?_
     have c4:isB L t=false:=by
      cases c4:isB L t with
      |false=>rfl
      |true=>exact absurd ⟨by omega,by omega,by omega,of_decide_eq_true c3,of_decide_eq_true c4⟩ hb
     rw[c4]
     simp (maxSteps:=1000000) [go_sem]
     exact ret (hx:=by simp[go_sem,zd,leA,leT,leP,uS,UX])
theorem Ym [Gi] {l:List Int} {L:List (List Int)}(h:Ln l L)(hn:l.length≤65536)(f t:Nat)(hft:f≤t)(ht:t≤l.length)(hf1:isB L f=true)(ht1:isB L t=true)(ins:List Int)(hi:ins.length≤65536)(hri:∀x∈ins,zu x)(hs:65536< (zX l f t ins).length):
  CR Tryz.prog 36 [] [.p (zJ za),.p (zh l),.p (.int .i64 f),.p (.int .i64 t),.p (zh ins)] [] (is (uS l UX 0 3)):=by
 have gf:=kg h f
 have gt:=kg h t
 rw[hf1]at gf
 rw[ht1]at gt
 have hsp:=Yf l hn h.r f t hft ht ins hi hri
 have q4:(65536:Int)< (zX l f t ins).length:=by omega
 generalize zX l f t ins=N at hs hsp q4
 generalize ZM l f=b at hsp
 generalize onL l t=o at hsp
 generalize (vE l f t ins).length=m at hsp
 have q0:¬(f:Int)<0:=by omega
 have q1:¬(t:Int)<f:=by omega
 have q2:¬(l.length:Int)<t:=by omega
 refine walk Tryz.func36 26 [] [] [] ?_
 simp (maxSteps:=1000000) [go_sem,Tryz.f36,q0,q1,q2]
 refine zk gf ?_
 simp (maxSteps:=1000000) [go_sem]
 refine zk gt ?_
 simp (maxSteps:=1000000) [go_sem]
 refine zk hsp ?_
 simp (maxSteps:=1000000) [go_sem,q4]
 exact ret (hx:=by simp[go_sem,zd,leA,leT,leP,uS,UX])
theorem zaC(l s:List Int)(b p:Nat):∀k m,Zi l s b p k m≤m
 |0,m=>Nat.le_refl _
 |k+1,m=>by
  unfold Zi
  split
  ·have:=zaC l s b p k (m-1);omega
  ·exact Nat.le_refl _
theorem zd4 {l s:List Int} {b p k k' m m':Nat}(hk:k=k'+1)(hm:m=m'+1)(h1:p≤k')(h2:b<m):Zi l s b p k m=if l.getD k' 0=s.getD m' 0 then Zi l s b p k' m' else m:=by
 subst hk;subst hm
 rw[Zi]
 have e3:m'+1-1=m':=rfl
 rw[e3]
 by_cases q:l.getD k' 0=s.getD m' 0
 ·rw[if_pos ⟨h1,h2,q⟩,if_pos q]
 ·rw[if_neg (fun h=>q h.2.2),if_neg q]
theorem Y3 [Gi] {l:List Int} {L:List (List Int)}(h:Ln l L)(hn:l.length≤65536)(f t:Nat)(hft:f≤t)(ht:t≤l.length)(hf1:isB L f=true)(ht1:isB L t=true)(ins:List Int)(hi:ins.length≤65536)(hri:∀x∈ins,zu x)
  {N:List Int} {b o m:Nat} (hN:zX l f t ins=N) (hB:ZM l f=b) (hO:onL l t=o) (hM:(vE l f t ins).length=m) (hs:N.length≤65536) {L':List (List Int)} (hl':Ln N L') (hbm:b+m≤N.length):
  CR Tryz.prog 36 [] [.p (zJ za),.p (zh l),.p (.int .i64 f),.p (.int .i64 t),.p (zh ins)] []
   (is (uS N (yD (jm l N b o (b+m)).1 (cut l (jm l N b o (b+m)).1 (jm l N b o (b+m)).2.1) (cut N (jm l N b o (b+m)).1 (jm l N b o (b+m)).2.2)) (plc L' (cnt (pl L') (Zi l N b t o (b+m):Nat)):Nat) 0)):=by
 have gf:=kg h f
 have gt:=kg h t
 rw[hf1]at gf
 rw[ht1]at gt
 have hsp:=Yf l hn h.r f t hft ht ins hi hri
 rw[hN,hB,hO,hM]at hsp
 have hb:=vW l f
 have ho:=K9 l ht
 rw[hB]at hb
 rw[hO]at ho
 have q4:¬(65536:Int)<N.length:=by omega
 have q0:¬(f:Int)<0:=by omega
 have q1:¬(t:Int)<f:=by omega
 have q2:¬(l.length:Int)<t:=by omega
 have haf:=zaC l N b t o (b+m)
 have h104:=ziy hl' (Zi l N b t o (b+m)) (by omega)
 have h105:=zeR l N (by omega) (by omega) b o (b+m) (by omega) (by omega) ho.2 hbm
 have n1:=zbE l N (min o (b+m)-b) b
 have n2:=zbH l N (jm l N b o (b+m)).1 o (b+m) (by unfold jm;simp only;omega) (by unfold jm;simp only;omega)
 have n3:b≤(jm l N b o (b+m)).1:=n1.1
 have n4:(jm l N b o (b+m)).2=Qo l N (jm l N b o (b+m)).1 o (b+m):=rfl
 rw[←n4]at n2
 generalize jm l N b o (b+m)=nr at h105 n2 n3⊢
 obtain⟨u,v,w⟩:=nr
 simp only at h105 n2 n3⊢
 have hcl:(cut l (u:Nat) (v:Nat)).length≤l.length:=by unfold cut;rw[List.length_take,List.length_drop];omega
 have hcn:(cut N (u:Nat) (w:Nat)).length≤N.length:=by unfold cut;rw[List.length_take,List.length_drop];omega
 refine uG 26 [] Tryz.func36 rfl [] rfl (by simp) (by simp) ?_
 refine Sem.Zm [] mixed ?_
 simp (maxSteps:=1000000) [go_sem,Tryz.f36]
 refine Sem.Zm [] mixed ?_
 simp (maxSteps:=1000000) [go_sem,q0,q1,q2]
 refine zk gf ?_
 simp (maxSteps:=1000000) [go_sem]
 refine zk gt ?_
 simp (maxSteps:=1000000) [go_sem]
 refine Sem.Zm [] mixed ?_
 simp (maxSteps:=1000000) [go_sem]
 refine zk hsp ?_
 simp (maxSteps:=1000000) [go_sem]
 refine Sem.Zm [] mixed ?_
 simp (maxSteps:=1000000) [go_sem,q4]
 refine Sem.Zm [] mixed ?_
 simp (maxSteps:=1000000) [go_sem]
 refine Sem.Zm [] mixed ?_ (hok:=by kernel_rfl)
 simp (maxSteps:=1000000) [go_sem]
 refine loop (fun i:Nat×Nat=>i.1≤l.length∧i.2≤N.length∧Zi l N b t i.1 i.2=Zi l N b t o (b+m)) (fun i=>[(18,.p (.int .i64 i.1)),(19,.p (.int .i64 i.2))]) (fun _=>[]) (fun i=>i.1) (o,b+m) ⟨ho.2,hbm,rfl⟩ (fun i hi=>?_)
 obtain⟨k,r⟩:=i
 obtain⟨i1,i2,i3⟩:=hi
 simp only at i1 i2 i3
 rw[←i3]at h104⊢
 by_cases d1:t<k
 ·obtain⟨k',hk⟩:∃k',k=k'+1:=⟨k-1,by omega⟩
  by_cases d2:b<r
  ·obtain⟨r',hm⟩:∃r',r=r'+1:=⟨r-1,by omega⟩
   have w1:IntKind.i64.wrap ((k:Int)-1)=(k':Int):=zq (by omega) hk
   have w2:IntKind.i64.wrap ((r:Int)-1)=(r':Int):=zq (by omega) hm
   have a1:k'<l.length:=by omega
   have a2:r'<N.length:=by omega
   have e1:=Qj a1
   have e2:=Qj a2
   have hst:=zd4 (l:=l) (s:=N) (b:=b) (p:=t) hk hm (by omega) (by omega)
   generalize l.getD k' 0=x at e1 hst
   generalize N.getD r' 0=y at e2 hst
   by_cases q:x=y
   ·rw[if_pos q]at hst
    simp (maxSteps:=1000000) [go_sem,d1,d2,w1,w2,e1,e2,a1,a2,q]
    exact next (k',r') ⟨by show k'≤_;omega,by show r'≤_;omega,hst.symm⟩ (h3:=by show k'<k;omega)
   ·rw[if_neg q]at hst
    rw[hst]at h104⊢
    simp (maxSteps:=1000000) [go_sem,d1,d2,w1,w2,e1,e2,a1,a2,q]
    refine Sem.Zm [] mixed ?_
    simp (maxSteps:=1000000) [go_sem]
    refine zk h104 ?_
    simp (maxSteps:=1000000) [go_sem]
    refine Sem.Zm [] mixed ?_
    simp (maxSteps:=1000000) [go_sem]
    refine zk h105 ?_
    simp (maxSteps:=1000000) [go_sem]
    refine Sem.Zm [] mixed ?_
    simp (maxSteps:=1000000) [go_sem]
    refine Sem.Zm [] mixed ?_
    simp (maxSteps:=1000000) [go_sem]
    refine⟨⟨n2.1,by omega⟩,by omega,?_⟩
    refine Sem.Zm [] mixed ?_
    simp (maxSteps:=1000000) [go_sem]
    refine⟨⟨n2.2.2.1,by omega⟩,by omega,?_⟩
    refine Sem.za0 [(24,.p (.sl 1 (zr (cut l u v)))),(25,.p (.sl 1 (zr (cut N u w))))] [] ?_
    refine Sem.of [] mixed ?_
    simp (maxSteps:=1000000) [go_sem]
    exact ret (hx:=by simp[go_sem,zd,leA,leT,leP,uS,yD])
  ·have hst:Zi l N b t k r=r:=by
    rw[hk];unfold Zi;rw[if_neg (fun h=>d2 h.2.1)]
   rw[hst]at h104⊢
   obtain⟨x1,y1,z1⟩:=zx N (IntKind.i64.wrap ((r:Int)-1)).toNat
   obtain⟨x2,y2,z2⟩:=zx l (IntKind.i64.wrap ((k:Int)-1)).toNat
   by_cases z3:x2=x1
   ·simp (maxSteps:=1000000) [go_sem,d1,d2,z1,z2,z3]
    refine Sem.Zm [] mixed ?_
    simp (maxSteps:=1000000) [go_sem]
    refine zk h104 ?_
    simp (maxSteps:=1000000) [go_sem]
    refine Sem.Zm [] mixed ?_
    simp (maxSteps:=1000000) [go_sem]
    refine zk h105 ?_
    simp (maxSteps:=1000000) [go_sem]
    refine Sem.Zm [] mixed ?_
    simp (maxSteps:=1000000) [go_sem]
    refine Sem.Zm [] mixed ?_
    simp (maxSteps:=1000000) [go_sem]
    refine⟨⟨n2.1,by omega⟩,by omega,?_⟩
    refine Sem.Zm [] mixed ?_
    simp (maxSteps:=1000000) [go_sem]
    refine⟨⟨n2.2.2.1,by omega⟩,by omega,?_⟩
    refine Sem.za0 [(24,.p (.sl 1 (zr (cut l u v)))),(25,.p (.sl 1 (zr (cut N u w))))] [] ?_
    refine Sem.of [] mixed ?_
    simp (maxSteps:=1000000) [go_sem]
    exact ret (hx:=by simp[go_sem,zd,leA,leT,leP,uS,yD])
   ·simp (maxSteps:=1000000) [go_sem,d1,d2,z1,z2,z3]
    refine Sem.Zm [] mixed ?_
    simp (maxSteps:=1000000) [go_sem]
    refine zk h104 ?_
    simp (maxSteps:=1000000) [go_sem]
    refine Sem.Zm [] mixed ?_
    simp (maxSteps:=1000000) [go_sem]
    refine zk h105 ?_
    simp (maxSteps:=1000000) [go_sem]
    refine Sem.Zm [] mixed ?_
    simp (maxSteps:=1000000) [go_sem]
    refine Sem.Zm [] mixed ?_
    simp (maxSteps:=1000000) [go_sem]
    refine⟨⟨n2.1,by omega⟩,by omega,?_⟩
    refine Sem.Zm [] mixed ?_
    simp (maxSteps:=1000000) [go_sem]
    refine⟨⟨n2.2.2.1,by omega⟩,by omega,?_⟩
    refine Sem.za0 [(24,.p (.sl 1 (zr (cut l u v)))),(25,.p (.sl 1 (zr (cut N u w))))] [] ?_
    refine Sem.of [] mixed ?_
    simp (maxSteps:=1000000) [go_sem]
    exact ret (hx:=by simp[go_sem,zd,leA,leT,leP,uS,yD])
 ·have hst:Zi l N b t k r=r:=by
   cases k with
   |zero=>rfl
   |succ k=>unfold Zi;rw[if_neg (fun h=>d1 (by omega))]
  rw[hst]at h104⊢
  obtain⟨x1,y1,z1⟩:=zx N (IntKind.i64.wrap ((r:Int)-1)).toNat
  obtain⟨x2,y2,z2⟩:=zx l (IntKind.i64.wrap ((k:Int)-1)).toNat
  by_cases z3:x2=x1
  ·simp (maxSteps:=1000000) [go_sem,d1,z1,z2,z3]
   refine Sem.Zm [] mixed ?_
   simp (maxSteps:=1000000) [go_sem]
   refine zk h104 ?_
   simp (maxSteps:=1000000) [go_sem]
   refine Sem.Zm [] mixed ?_
   simp (maxSteps:=1000000) [go_sem]
   refine zk h105 ?_
   simp (maxSteps:=1000000) [go_sem]
   refine Sem.Zm [] mixed ?_
   simp (maxSteps:=1000000) [go_sem]
   refine Sem.Zm [] mixed ?_
   simp (maxSteps:=1000000) [go_sem]
   refine⟨⟨n2.1,by omega⟩,by omega,?_⟩
   refine Sem.Zm [] mixed ?_
   simp (maxSteps:=1000000) [go_sem]
   refine⟨⟨n2.2.2.1,by omega⟩,by omega,?_⟩
   refine Sem.za0 [(24,.p (.sl 1 (zr (cut l u v)))),(25,.p (.sl 1 (zr (cut N u w))))] [] ?_
   refine Sem.of [] mixed ?_
   simp (maxSteps:=1000000) [go_sem]
   exact ret (hx:=by simp[go_sem,zd,leA,leT,leP,uS,yD])
  ·simp (maxSteps:=1000000) [go_sem,d1,z1,z2,z3]
   refine Sem.Zm [] mixed ?_
   simp (maxSteps:=1000000) [go_sem]
   refine zk h104 ?_
   simp (maxSteps:=1000000) [go_sem]
   refine Sem.Zm [] mixed ?_
   simp (maxSteps:=1000000) [go_sem]
   refine zk h105 ?_
   simp (maxSteps:=1000000) [go_sem]
   refine Sem.Zm [] mixed ?_
   simp (maxSteps:=1000000) [go_sem]
   refine Sem.Zm [] mixed ?_
   simp (maxSteps:=1000000) [go_sem]
   refine⟨⟨n2.1,by omega⟩,by omega,?_⟩
   refine Sem.Zm [] mixed ?_
   simp (maxSteps:=1000000) [go_sem]
   refine⟨⟨n2.2.2.1,by omega⟩,by omega,?_⟩
   refine Sem.za0 [(24,.p (.sl 1 (zr (cut l u v)))),(25,.p (.sl 1 (zr (cut N u w))))] [] ?_
   refine Sem.of [] mixed ?_
   simp (maxSteps:=1000000) [go_sem]
   exact ret (hx:=by simp[go_sem,zd,leA,leT,leP,uS,yD])
end Go.Proofs.YthbmelihnabkaaaGreat
end
section
namespace Go.Proofs.YthbmelihnabkaaaGreat
open Go.AM
set_option maxHeartbeats 4000000
set_option maxRecDepth 10000
attribute [local irreducible] za
end Go.Proofs.YthbmelihnabkaaaGreat
end
section
namespace Go.Proofs.YthbmelihnabkaaaGreat
open Go.AM
set_option maxHeartbeats 4000000
set_option maxRecDepth 10000
attribute [local irreducible] za
theorem wN [Gi]:CR Tryz.prog 15 [] [.p (.opq (.slice none 0 0)),.p (.opq (.slice none 0 0))] [] (is (.p (.bool true))):=by
 have h:=xg [] (by decide)
 intro w g vs h1 h2
 refine h w g vs ?_ h2
 simp only[zp,zb,zl,zh,zr,List.map_nil]at h1⊢
 obtain⟨v1,w1,e1,rfl,v2,w2,e2,rfl,e3⟩:=h1
 exact⟨_,w1,e1,.inl ⟨trivial,none,0,rfl⟩,_,w2,e2,.inl ⟨trivial,none,0,rfl⟩,e3⟩
end Go.Proofs.YthbmelihnabkaaaGreat
end
section
namespace Go.Proofs.YthbmelihnabkaaaGreat
open Go.AM
set_option maxHeartbeats 4000000
set_option maxRecDepth 10000
attribute [local irreducible] za
theorem zll [Gi] {l:List Int} {L:List (List Int)}(hl:Ln l L)(hn:l.length≤65536)(f t:Int)(ins:List Int)(hi:ins.length≤65536)(hri:∀x∈ins,zu x):
  CR Tryz.prog 36 [] [.p (zJ za),.p (zh l),.p (.int .i64 f),.p (.int .i64 t),.p (zh ins)] [] (is (uS (jK l f t ins).l (jK l f t ins).edit (jK l f t ins).k (jK l f t ins).s)):=by
 have hL:=hl.eq
 cases hok:okT L f t with
 |false=>
  have hr:jK l f t ins=⟨l,.int .i64 0,KH,KH,0,2⟩:=by unfold jK;rw[←hL,if_neg (by rw[hok];decide)]
  rw[hr]
  exact Yj hl f t ins hok
 |true=>
  obtain⟨f',t',rfl,rfl,h1,h2,h3,h4⟩:=VZ hl hok
  have b1:isB L f'=true:=decide_eq_true (by omega)
  have b2:isB L t'=true:=decide_eq_true (by omega)
  by_cases hs:(zX l f' t' ins).length≤65536
  ·have hr:jK l f' t' ins=zmY l f' t' ins:=by
    unfold jK;rw[←hL,if_pos hok];simp only[Int.toNat_natCast];rw[if_pos hs]
   rw[hr]
   have sf:=WT hl.r hn h1 h2 hi hri
   exact Y3 hl hn f' t' h1 h2 b1 b2 ins hi hri rfl rfl rfl rfl hs ⟨rfl,by omega,sf.1⟩ sf.2
  ·have hr:jK l f' t' ins=⟨l,.int .i64 0,KH,KH,0,3⟩:=by
    unfold jK;rw[←hL,if_pos hok];simp only[Int.toNat_natCast];rw[if_neg hs]
   rw[hr]
   exact Ym hl hn f' t' h1 h2 b1 b2 ins hi hri (by omega)
end Go.Proofs.YthbmelihnabkaaaGreat
end
section
namespace Go.Proofs.YthbmelihnabkaaaGreat
open Go.AM
set_option maxHeartbeats 4000000
set_option maxRecDepth 100000
attribute [local irreducible] za
end Go.Proofs.YthbmelihnabkaaaGreat
end
