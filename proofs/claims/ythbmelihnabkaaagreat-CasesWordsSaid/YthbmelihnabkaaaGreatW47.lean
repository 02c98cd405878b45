/- A part of the proof of this seat's statements, by an abstract machine: what each operation does to values, and what the law's functions compute. Conditions: as each law says. -/
import Derived.Test.YthbmelihnabkaaaGreatW46
import Derived.Test.YthbmelihnabkaaaGreatW43
section
namespace Go.Proofs.YthbmelihnabkaaaGreat
open Go.AM
set_option maxHeartbeats 4000000
set_option maxRecDepth 10000
attribute [local irreducible] za
def vt(l s:List Int):Nat→Nat→Nat
 |0,f=>f
 |n+1,f=>if l.getD f 0=s.getD f 0 then vt l s n (f+1)else f
def Qo(l s:List Int)(f:Nat):Nat→Nat→Nat×Nat
 |o+1,c+1=>if f≤o∧f≤c∧l.getD o 0=s.getD c 0 then Qo l s f o c else(o+1,c+1)
 |o,c=>(o,c)
def jm(l s:List Int)(b o c:Nat):Nat×Nat×Nat:=(vt l s (min o c-b) b,Qo l s (vt l s (min o c-b) b) o c)
theorem zbE(l s:List Int):∀n f,f≤vt l s n f∧vt l s n f≤f+n
 |0,f=>⟨Nat.le_refl _,Nat.le_refl _⟩
 |n+1,f=>by
  unfold vt
  split
  ·have:=zbE l s n (f+1);omega
  ·omega
theorem zbH(l s:List Int)(f:Nat):∀o c,f≤o→f≤c→f≤(Qo l s f o c).1∧(Qo l s f o c).1≤o∧f≤(Qo l s f o c).2∧(Qo l s f o c).2≤c
 |o+1,c+1,h1,h2=>by
  unfold Qo
  split
  ·rename_i h
   have:=zbH l s f o c h.1 h.2.1;omega
  ·simp only;omega
 |0,c,h1,h2=>by unfold Qo;simp only;omega
 |o+1,0,h1,h2=>by unfold Qo;simp only;omega
theorem YQ {l s:List Int} {i o c:Nat}(ho:o≤l.length)(hc:c≤s.length):
  (∃x,i<o∧i<c∧elemAt (zr l) i=.int .i32 x∧elemAt (zr s) i=.int .i32 x∧vt l s (min o c-i) i=vt l s (min o c- (i+1)) (i+1))∨
   (i<o∧i<c∧∃x y,elemAt (zr l) i=.int .i32 x∧elemAt (zr s) i=.int .i32 y∧x≠y∧vt l s (min o c-i) i=i)∨
   (i<o∧¬i<c∧vt l s (min o c-i) i=i)∨(¬i<o∧vt l s (min o c-i) i=i):=by
 have hgo:∀(_:i<o) (_:i<c),vt l s (min o c-i) i=if l.getD i 0=s.getD i 0 then vt l s (min o c- (i+1)) (i+1)else i:=fun _ _=>by
  have:min o c-i=(min o c- (i+1))+1:=by omega
  rw[this];rfl
 have hno:¬(i<o∧i<c)→vt l s (min o c-i) i=i:=fun h=>by
  have:min o c-i=0:=by omega
  rw[this];rfl
 by_cases d1:i<o
 ·by_cases d2:i<c
  ·have a1:i<l.length:=by omega
   have a2:i<s.length:=by omega
   by_cases q:l.getD i 0=s.getD i 0
   ·exact .inl ⟨_,d1,d2,Qj a1,by rw[Qj a2,q],by rw[hgo d1 d2,if_pos q]⟩
   ·exact .inr (.inl ⟨d1,d2,_,_,Qj a1,Qj a2,q,by rw[hgo d1 d2,if_neg q]⟩)
  ·exact .inr (.inr (.inl ⟨d1,d2,hno (fun h=>d2 h.2)⟩))
 ·exact .inr (.inr (.inr ⟨d1,hno (fun h=>d1 h.1)⟩))
theorem Qe {l s:List Int} {f i j:Nat}(ho:i≤l.length)(hc:j≤s.length):
  (∃x i' j',f<i∧f<j∧i=i'+1∧j=j'+1∧elemAt (zr l) i'=.int .i32 x∧elemAt (zr s) j'=.int .i32 x∧Qo l s f i j=Qo l s f i' j')∨
   (f<i∧f<j∧∃x y i' j',i=i'+1∧j=j'+1∧elemAt (zr l) i'=.int .i32 x∧elemAt (zr s) j'=.int .i32 y∧x≠y∧Qo l s f i j=(i,j))∨
   (f<i∧¬f<j∧Qo l s f i j=(i,j))∨(¬f<i∧Qo l s f i j=(i,j)):=by
 by_cases d1:f<i
 ·obtain⟨i',hi⟩:∃i',i=i'+1:=⟨i-1,by omega⟩
  by_cases d2:f<j
  ·obtain⟨j',hj⟩:∃j',j=j'+1:=⟨j-1,by omega⟩
   have a1:i'<l.length:=by omega
   have a2:j'<s.length:=by omega
   by_cases q:l.getD i' 0=s.getD j' 0
   ·refine .inl ⟨_,i',j',d1,d2,hi,hj,Qj a1,by rw[Qj a2,q],?_⟩
    rw[hi,hj,Qo,if_pos ⟨by omega,by omega,q⟩]
   ·refine .inr (.inl ⟨d1,d2,_,_,i',j',hi,hj,Qj a1,Qj a2,q,?_⟩)
    rw[hi,hj,Qo,if_neg (fun h=>q h.2.2)]
  ·refine .inr (.inr (.inl ⟨d1,d2,?_⟩))
   rw[hi]
   cases j with
   |zero=>rfl
   |succ j=>rw[Qo,if_neg (fun h=>d2 (by omega))]
 ·refine .inr (.inr (.inr ⟨d1,?_⟩))
  cases i with
  |zero=>unfold Qo;rfl
  |succ i=>
   cases j with
   |zero=>rfl
   |succ j=>rw[Qo,if_neg (fun h=>d1 (by omega))]
theorem zim [Gi](l s:List Int)(hl:l.length<2^31)(hs:s.length<2^31)(b o c:Nat)(h1:b≤o)(h2:b≤c)(ho:o≤l.length)(hc:c≤s.length):
  CR Tryz.prog 69 [] [.p (zh l),.p (zh s),.p (xA b o c)] [] (is (.p (xA (jm l s b o c).1 (jm l s b o c).2.1 (jm l s b o c).2.2))):=by
 refine walk Tryz.func69 7 [] [] [] ?_
 unfold jm
 simp (maxSteps:=1000000) [go_sem,Tryz.f69,xA]
 refine loop (fun i:Nat=>b≤i∧i≤o∧i≤c∧vt l s (min o c-i) i=vt l s (min o c-b) b) (fun _=>[]) (fun i=>[([5],[.p (.int .i64 i),.p (.int .i64 o),.p (.int .i64 c)])]) (fun i=>o-i) b ⟨Nat.le_refl _,h1,h2,rfl⟩ (fun i hi=>?_)
 obtain⟨i0,i1,i2,i3⟩:=hi
 rw[←i3]
 rcases YQ (l:=l) (s:=s) (i:=i) ho hc with ⟨x,d1,d2,e1,e2,hst⟩|⟨d1,d2,x,y,e1,e2,q,hst⟩|⟨d1,d2,hst⟩|⟨d1,hst⟩
 ·have a1:i<l.length:=by omega
  have a2:i<s.length:=by omega
  have w1:IntKind.i64.wrap ((i:Int)+1)=((i+1:Nat):Int):=zN (by omega)
  rw[hst]
  simp (maxSteps:=1000000) [go_sem,d1,d2,w1,e1,e2,a1,a2]
  exact next (i+1) ⟨by omega,by omega,by omega,rfl⟩ (h3:=by show o- (i+1)<o-i;omega)
 ·have a1:i<l.length:=by omega
  have a2:i<s.length:=by omega
  rw[hst]
  simp (maxSteps:=1000000) [go_sem,d1,d2,e1,e2,a1,a2,q]
  refine loop (fun j:Nat×Nat=>i≤j.1∧j.1≤o∧i≤j.2∧j.2≤c∧Qo l s i j.1 j.2=Qo l s i o c) (fun _=>[]) (fun j=>[([5],[.p (.int .i64 i),.p (.int .i64 j.1),.p (.int .i64 j.2)])]) (fun j=>j.1) (o,c) ⟨i1,Nat.le_refl _,i2,Nat.le_refl _,rfl⟩ (fun j hj=>?_)
  obtain⟨u,v⟩:=j
  obtain⟨j1,j2,j3,j4,j5⟩:=hj
  simp only at j1 j2 j3 j4 j5
  rw[←j5]
  rcases Qe (l:=l) (s:=s) (f:=i) (i:=u) (j:=v) (by omega) (by omega)with ⟨z,u',v',m1,m2,hu,hv,z1,z2,hn⟩|⟨m1,m2,z,z',u',v',hu,hv,z1,z2,z3,hn⟩|⟨m1,m2,hn⟩|⟨m1,hn⟩
  ·have w1:IntKind.i64.wrap ((u:Int)-1)=(u':Int):=zq (by omega) hu
   have w2:IntKind.i64.wrap ((v:Int)-1)=(v':Int):=zq (by omega) hv
   have b1:u'<l.length:=by omega
   have b2:v'<s.length:=by omega
   rw[hn]
   simp (maxSteps:=1000000) [go_sem,m1,m2,w1,w2,z1,z2,b1,b2]
   exact next (u',v') ⟨by show i≤u';omega,by show u'≤o;omega,by show i≤v';omega,by show v'≤c;omega,rfl⟩ (h3:=by show u'<u;omega)
  ·have w1:IntKind.i64.wrap ((u:Int)-1)=(u':Int):=zq (by omega) hu
   have w2:IntKind.i64.wrap ((v:Int)-1)=(v':Int):=zq (by omega) hv
   have b1:u'<l.length:=by omega
   have b2:v'<s.length:=by omega
   rw[hn]
   simp (maxSteps:=1000000) [go_sem,m1,m2,w1,w2,z1,z2,z3,b1,b2]
   exact ret
  ·rw[hn]
   obtain⟨x1,y1,g1⟩:=zx s (IntKind.i64.wrap ((v:Int)-1)).toNat
   obtain⟨x2,y2,g2⟩:=zx l (IntKind.i64.wrap ((u:Int)-1)).toNat
   by_cases g3:x2=x1
   ·simp (maxSteps:=1000000) [go_sem,m1,m2,g1,g2,g3]
    exact ret
   ·simp (maxSteps:=1000000) [go_sem,m1,m2,g1,g2,g3]
    exact ret
  ·rw[hn]
   obtain⟨x1,y1,g1⟩:=zx s (IntKind.i64.wrap ((v:Int)-1)).toNat
   obtain⟨x2,y2,g2⟩:=zx l (IntKind.i64.wrap ((u:Int)-1)).toNat
   by_cases g3:x2=x1
   ·simp (maxSteps:=1000000) [go_sem,m1,g1,g2,g3]
    exact ret
   ·simp (maxSteps:=1000000) [go_sem,m1,g1,g2,g3]
    exact ret
 ·obtain⟨x1,y1,g1⟩:=zx s i
  obtain⟨x2,y2,g2⟩:=zx l i
  rw[hst]
  by_cases g3:x2=x1
  ·simp (maxSteps:=1000000) [go_sem,d1,d2,g1,g2,g3]
   refine loop (fun j:Nat×Nat=>i≤j.1∧j.1≤o∧i≤j.2∧j.2≤c∧Qo l s i j.1 j.2=Qo l s i o c) (fun _=>[]) (fun j=>[([5],[.p (.int .i64 i),.p (.int .i64 j.1),.p (.int .i64 j.2)])]) (fun j=>j.1) (o,c) ⟨i1,Nat.le_refl _,i2,Nat.le_refl _,rfl⟩ (fun j hj=>?_)
   obtain⟨u,v⟩:=j
   obtain⟨j1,j2,j3,j4,j5⟩:=hj
   simp only at j1 j2 j3 j4 j5
   rw[←j5]
   rcases Qe (l:=l) (s:=s) (f:=i) (i:=u) (j:=v) (by omega) (by omega)with ⟨z,u',v',m1,m2,hu,hv,z1,z2,hn⟩|⟨m1,m2,z,z',u',v',hu,hv,z1,z2,z3,hn⟩|⟨m1,m2,hn⟩|⟨m1,hn⟩
   ·have w1:IntKind.i64.wrap ((u:Int)-1)=(u':Int):=zq (by omega) hu
    have w2:IntKind.i64.wrap ((v:Int)-1)=(v':Int):=zq (by omega) hv
    have b1:u'<l.length:=by omega
    have b2:v'<s.length:=by omega
    rw[hn]
    simp (maxSteps:=1000000) [go_sem,m1,m2,w1,w2,z1,z2,b1,b2]
    exact next (u',v') ⟨by show i≤u';omega,by show u'≤o;omega,by show i≤v';omega,by show v'≤c;omega,rfl⟩ (h3:=by show u'<u;omega)
   ·have w1:IntKind.i64.wrap ((u:Int)-1)=(u':Int):=zq (by omega) hu
    have w2:IntKind.i64.wrap ((v:Int)-1)=(v':Int):=zq (by omega) hv
    have b1:u'<l.length:=by omega
    have b2:v'<s.length:=by omega
    rw[hn]
    simp (maxSteps:=1000000) [go_sem,m1,m2,w1,w2,z1,z2,z3,b1,b2]
    exact ret
   ·rw[hn]
    obtain⟨x1,y1,g1⟩:=zx s (IntKind.i64.wrap ((v:Int)-1)).toNat
    obtain⟨x2,y2,g2⟩:=zx l (IntKind.i64.wrap ((u:Int)-1)).toNat
    by_cases g3:x2=x1
    ·simp (maxSteps:=1000000) [go_sem,m1,m2,g1,g2,g3]
     exact ret
    ·simp (maxSteps:=1000000) [go_sem,m1,m2,g1,g2,g3]
     exact ret
   ·rw[hn]
    obtain⟨x1,y1,g1⟩:=zx s (IntKind.i64.wrap ((v:Int)-1)).toNat
    obtain⟨x2,y2,g2⟩:=zx l (IntKind.i64.wrap ((u:Int)-1)).toNat
    by_cases g3:x2=x1
    ·simp (maxSteps:=1000000) [go_sem,m1,g1,g2,g3]
     exact ret
    ·simp (maxSteps:=1000000) [go_sem,m1,g1,g2,g3]
     exact ret
  ·simp (maxSteps:=1000000) [go_sem,d1,d2,g1,g2,g3]
   refine loop (fun j:Nat×Nat=>i≤j.1∧j.1≤o∧i≤j.2∧j.2≤c∧Qo l s i j.1 j.2=Qo l s i o c) (fun _=>[]) (fun j=>[([5],[.p (.int .i64 i),.p (.int .i64 j.1),.p (.int .i64 j.2)])]) (fun j=>j.1) (o,c) ⟨i1,Nat.le_refl _,i2,Nat.le_refl _,rfl⟩ (fun j hj=>?_)
   obtain⟨u,v⟩:=j
   obtain⟨j1,j2,j3,j4,j5⟩:=hj
   simp only at j1 j2 j3 j4 j5
   rw[←j5]
   rcases Qe (l:=l) (s:=s) (f:=i) (i:=u) (j:=v) (by omega) (by omega)with ⟨z,u',v',m1,m2,hu,hv,z1,z2,hn⟩|⟨m1,m2,z,z',u',v',hu,hv,z1,z2,z3,hn⟩|⟨m1,m2,hn⟩|⟨m1,hn⟩
   ·have w1:IntKind.i64.wrap ((u:Int)-1)=(u':Int):=zq (by omega) hu
    have w2:IntKind.i64.wrap ((v:Int)-1)=(v':Int):=zq (by omega) hv
    have b1:u'<l.length:=by omega
    have b2:v'<s.length:=by omega
    rw[hn]
    simp (maxSteps:=1000000) [go_sem,m1,m2,w1,w2,z1,z2,b1,b2]
    exact next (u',v') ⟨by show i≤u';omega,by show u'≤o;omega,by show i≤v';omega,by show v'≤c;omega,rfl⟩ (h3:=by show u'<u;omega)
   ·have w1:IntKind.i64.wrap ((u:Int)-1)=(u':Int):=zq (by omega) hu
    have w2:IntKind.i64.wrap ((v:Int)-1)=(v':Int):=zq (by omega) hv
    have b1:u'<l.length:=by omega
    have b2:v'<s.length:=by omega
    rw[hn]
    simp (maxSteps:=1000000) [go_sem,m1,m2,w1,w2,z1,z2,z3,b1,b2]
    exact ret
   ·rw[hn]
    obtain⟨x1,y1,g1⟩:=zx s (IntKind.i64.wrap ((v:Int)-1)).toNat
    obtain⟨x2,y2,g2⟩:=zx l (IntKind.i64.wrap ((u:Int)-1)).toNat
    by_cases g3:x2=x1
    ·simp (maxSteps:=1000000) [go_sem,m1,m2,g1,g2,g3]
     exact ret
    ·simp (maxSteps:=1000000) [go_sem,m1,m2,g1,g2,g3]
     exact ret
   ·rw[hn]
    obtain⟨x1,y1,g1⟩:=zx s (IntKind.i64.wrap ((v:Int)-1)).toNat
    obtain⟨x2,y2,g2⟩:=zx l (IntKind.i64.wrap ((u:Int)-1)).toNat
    by_cases g3:x2=x1
    ·simp (maxSteps:=1000000) [go_sem,m1,g1,g2,g3]
     exact ret
    ·simp (maxSteps:=1000000) [go_sem,m1,g1,g2,g3]
     exact ret
 ·obtain⟨x1,y1,g1⟩:=zx s i
  obtain⟨x2,y2,g2⟩:=zx l i
  rw[hst]
  by_cases g3:x2=x1
  ·simp (maxSteps:=1000000) [go_sem,d1,g1,g2,g3]
   refine loop (fun j:Nat×Nat=>i≤j.1∧j.1≤o∧i≤j.2∧j.2≤c∧Qo l s i j.1 j.2=Qo l s i o c) (fun _=>[]) (fun j=>[([5],[.p (.int .i64 i),.p (.int .i64 j.1),.p (.int .i64 j.2)])]) (fun j=>j.1) (o,c) ⟨i1,Nat.le_refl _,i2,Nat.le_refl _,rfl⟩ (fun j hj=>?_)
   obtain⟨u,v⟩:=j
   obtain⟨j1,j2,j3,j4,j5⟩:=hj
   simp only at j1 j2 j3 j4 j5
   rw[←j5]
   rcases Qe (l:=l) (s:=s) (f:=i) (i:=u) (j:=v) (by omega) (by omega)with ⟨z,u',v',m1,m2,hu,hv,z1,z2,hn⟩|⟨m1,m2,z,z',u',v',hu,hv,z1,z2,z3,hn⟩|⟨m1,m2,hn⟩|⟨m1,hn⟩
   ·have w1:IntKind.i64.wrap ((u:Int)-1)=(u':Int):=zq (by omega) hu
    have w2:IntKind.i64.wrap ((v:Int)-1)=(v':Int):=zq (by omega) hv
    have b1:u'<l.length:=by omega
    have b2:v'<s.length:=by omega
    rw[hn]
    simp (maxSteps:=1000000) [go_sem,m1,m2,w1,w2,z1,z2,b1,b2]
    exact next (u',v') ⟨by show i≤u';omega,by show u'≤o;omega,by show i≤v';omega,by show v'≤c;omega,rfl⟩ (h3:=by show u'<u;omega)
   ·have w1:IntKind.i64.wrap ((u:Int)-1)=(u':Int):=zq (by omega) hu
    have w2:IntKind.i64.wrap ((v:Int)-1)=(v':Int):=zq (by omega) hv
    have b1:u'<l.length:=by omega
    have b2:v'<s.length:=by omega
    rw[hn]
    simp (maxSteps:=1000000) [go_sem,m1,m2,w1,w2,z1,z2,z3,b1,b2]
    exact ret
   ·rw[hn]
    obtain⟨x1,y1,g1⟩:=zx s (IntKind.i64.wrap ((v:Int)-1)).toNat
    obtain⟨x2,y2,g2⟩:=zx l (IntKind.i64.wrap ((u:Int)-1)).toNat
    by_cases g3:x2=x1
    ·simp (maxSteps:=1000000) [go_sem,m1,m2,g1,g2,g3]
     exact ret
    ·simp (maxSteps:=1000000) [go_sem,m1,m2,g1,g2,g3]
     exact ret
   ·rw[hn]
    obtain⟨x1,y1,g1⟩:=zx s (IntKind.i64.wrap ((v:Int)-1)).toNat
    obtain⟨x2,y2,g2⟩:=zx l (IntKind.i64.wrap ((u:Int)-1)).toNat
    by_cases g3:x2=x1
    ·simp (maxSteps:=1000000) [go_sem,m1,g1,g2,g3]
     exact ret
    ·simp (maxSteps:=1000000) [go_sem,m1,g1,g2,g3]
     exact ret
  ·simp (maxSteps:=1000000) [go_sem,d1,g1,g2,g3]
   refine loop (fun j:Nat×Nat=>i≤j.1∧j.1≤o∧i≤j.2∧j.2≤c∧Qo l s i j.1 j.2=Qo l s i o c) (fun _=>[]) (fun j=>[([5],[.p (.int .i64 i),.p (.int .i64 j.1),.p (.int .i64 j.2)])]) (fun j=>j.1) (o,c) ⟨i1,Nat.le_refl _,i2,Nat.le_refl _,rfl⟩ (fun j hj=>?_)
   obtain⟨u,v⟩:=j
   obtain⟨j1,j2,j3,j4,j5⟩:=hj
   simp only at j1 j2 j3 j4 j5
   rw[←j5]
   rcases Qe (l:=l) (s:=s) (f:=i) (i:=u) (j:=v) (by omega) (by omega)with ⟨z,u',v',m1,m2,hu,hv,z1,z2,hn⟩|⟨m1,m2,z,z',u',v',hu,hv,z1,z2,z3,hn⟩|⟨m1,m2,hn⟩|⟨m1,hn⟩
   ·have w1:IntKind.i64.wrap ((u:Int)-1)=(u':Int):=zq (by omega) hu
    have w2:IntKind.i64.wrap ((v:Int)-1)=(v':Int):=zq (by omega) hv
    have b1:u'<l.length:=by omega
    have b2:v'<s.length:=by omega
    rw[hn]
    simp (maxSteps:=1000000) [go_sem,m1,m2,w1,w2,z1,z2,b1,b2]
    exact next (u',v') ⟨by show i≤u';omega,by show u'≤o;omega,by show i≤v';omega,by show v'≤c;omega,rfl⟩ (h3:=by show u'<u;omega)
   ·have w1:IntKind.i64.wrap ((u:Int)-1)=(u':Int):=zq (by omega) hu
    have w2:IntKind.i64.wrap ((v:Int)-1)=(v':Int):=zq (by omega) hv
    have b1:u'<l.length:=by omega
    have b2:v'<s.length:=by omega
    rw[hn]
    simp (maxSteps:=1000000) [go_sem,m1,m2,w1,w2,z1,z2,z3,b1,b2]
    exact ret
   ·rw[hn]
    obtain⟨x1,y1,g1⟩:=zx s (IntKind.i64.wrap ((v:Int)-1)).toNat
    obtain⟨x2,y2,g2⟩:=zx l (IntKind.i64.wrap ((u:Int)-1)).toNat
    by_cases g3:x2=x1
    ·simp (maxSteps:=1000000) [go_sem,m1,m2,g1,g2,g3]
     exact ret
    ·simp (maxSteps:=1000000) [go_sem,m1,m2,g1,g2,g3]
     exact ret
   ·rw[hn]
    obtain⟨x1,y1,g1⟩:=zx s (IntKind.i64.wrap ((v:Int)-1)).toNat
    obtain⟨x2,y2,g2⟩:=zx l (IntKind.i64.wrap ((u:Int)-1)).toNat
    by_cases g3:x2=x1
    ·simp (maxSteps:=1000000) [go_sem,m1,g1,g2,g3]
     exact ret
    ·simp (maxSteps:=1000000) [go_sem,m1,g1,g2,g3]
     exact ret
end Go.Proofs.YthbmelihnabkaaaGreat
end
section
namespace Go.Proofs.YthbmelihnabkaaaGreat
open Go.AM
set_option maxHeartbeats 4000000
set_option maxRecDepth 10000
attribute [local irreducible] za
theorem ziK:∀{S:List Nat} {a:Int},S.Pairwise (· < ·)→∀{i:Nat} (h:i<S.length),i<cnt S a→(S[i]:Int)<a
 |s::S,a,hS,i,h,hi=>by
  rw[List.pairwise_cons]at hS
  have hz:¬(s:Int)<a→cnt (s::S) a=0:=fun q=>by
   unfold cnt
   refine List.countP_eq_zero.2 fun x hx=>?_
   rcases List.mem_cons.1 hx with rfl|hx
   ·simpa using q
   ·have:=hS.1 x hx
    simp only[decide_eq_true_eq];omega
  by_cases q:(s:Int)<a
  ·cases i with
   |zero=>exact q
   |succ i=>
    have e:cnt (s::S) a=cnt S a+1:=by unfold cnt;rw[List.countP_cons_of_pos (by simpa using q)]
    rw[e]at hi
    exact ziK hS.2 (by simpa using h) (by omega)
  ·rw[hz q]at hi;omega
theorem zaf(l:List Nat)(k:Nat):cut (jS l) 0 k=jS (l.take k):=by simp[cut,jS]
theorem Sem.za0 [Gi] {P:Program} {c:Code} {Q:Exit→St→Prop} {S:St}(V:List (Nat×AV))(R:List (Tok×List AV))(h:AM.Sem P c Q (S.Y9 V R))(hl:LeS S (S.Y9 V R):=by simp[go_sem,LeS,leV,leR,leA,leL,zj,leT,leP]):AM.Sem P c Q S:=AM.Sem.le h hl
theorem zh0 [Gi] {e:PV}(hT:qB e) {l l':List Int} {L L':List (List Int)}(h:Ln l L)(h':Ln l' L')(b o c:Nat)(hb:b≤l.length)(ho:o≤l.length)(hc:c≤l'.length)(_:b≤o)(_:b≤c)
  (h1:l.take b=l'.take b) (h2:l.drop o=l'.drop c):CR Tryz.prog 122 [] [.p (zd2 L),.p e,.p (zh l'),.p (xA b o c)] [] (is (.p (zd2 L'))):=by
 refine uG 17 [103,104,105] Tryz.func122 rfl [] rfl (by simp) (by simp) ?_
 have hcl:=h.cl
 have hcl':=h'.cl
 have hs:=h.sum
 have hs':=h'.sum
 have hn:=h.n
 have hn':=h'.n
 have a1:=V6 hcl b
 have a2:=V6 hcl o
 have k0:=YW (pl L) b
 have j0:=YW (pl L) o
 rw[qI]at k0 j0
 have n0:=hcl.len
 have n1:=hcl'.len
 obtain⟨z0,e0,rfl⟩:=qA hT
 obtain⟨k,hk⟩:∃k,k=cnt (pl L) b-1:=⟨_,rfl⟩
 have w1:max (IntKind.i64.wrap ((cnt (pl L) b:Int)-1)) 0=(k:Int):=by
  rw[wrap64 (by omega) (by omega)];omega
 refine Sem.Zm [] mixed ?_
 simp (maxSteps:=1000000) [go_sem,Tryz.f122,xA]
 refine Sem.scope ?_
 refine Sem.Zm [] mixed ?_
 simp (maxSteps:=1000000) [go_sem]
 refine zk a1 ?_
 simp (maxSteps:=1000000) [go_sem,w1]
 refine Sem.Zm [] mixed ?_
 simp (maxSteps:=1000000) [go_sem]
 refine Sem.Zm [] mixed ?_
 simp (maxSteps:=1000000) [go_sem]
 have hkl:k≤L.length:=by omega
 have w2:min (k:Int) (L.length:Int)=(k:Int):=by omega
 have hq:(k<L.length∧elemAt (jS (pl L)) k=.int .i64 (plc L k:Nat))∨(¬k<L.length∧plc L k=0):=by
  by_cases g:k<L.length
  ·exact .inl ⟨g,zf3 g⟩
  ·have:k=0:=by omega
   exact .inr ⟨g,by rw[this,Zy]⟩
 have hfr:L'.take k=L.take k:=zeC h.eq h'.eq hb h1 hkl (by
  rcases Nat.eq_zero_or_pos k with z|z
  ·exact .inl z
  ·have:=ziK (zfA hcl) (i:=k) (a:=b) (by rw[qI];omega) (by omega)
   rw[Z1]at this
   exact .inr (by omega))
 have f1:k≤L'.length:=by
  have:=congrArg List.length hfr
  rw[List.length_take,List.length_take]at this;omega
 have f2:(pl L').take k=(pl L).take k:=by
  refine List.ext_getElem (by rw[List.length_take,List.length_take,qI,qI];omega) fun n x1 x2=>?_
  rw[List.length_take]at x1
  rw[List.getElem_take,List.getElem_take,Z1,Z1]
  have:=congrArg (List.take n) hfr
  rw[List.take_take,List.take_take,Nat.min_eq_left (by omega)]at this
  unfold plc;rw[this]
 have f3:plc L' k=plc L k:=by unfold plc;rw[hfr]
 have w3:IntKind.i64.wrap ((c:Int)-o)=(c:Int)-o:=wrap64 (by omega) (by omega)
 rcases hq with ⟨g1,g2⟩|⟨g1,g2⟩
 all_goals
  simp (maxSteps:=1000000) [go_sem,g1,g2]
  refine Sem.Zm [] mixed ?_
  simp (maxSteps:=1000000) [go_sem,w2]
  refine⟨hkl,by rw[zaf,zeb,List.length_take,qI];omega,?_⟩
  rw[zaf,←f2]
  refine Sem.Zm [] mixed ?_
  simp (maxSteps:=1000000) [go_sem,w3]
  refine Sem.Zm [] mixed ?_
  simp (maxSteps:=1000000) [go_sem]
  refine zk a2 ?_
  simp (maxSteps:=1000000) [go_sem]
  refine Sem.label (Sem.Zm [] mixed ?_)
  simp (maxSteps:=1000000) [go_sem]
  refine loop (fun i:Nat×Nat=>k≤i.1∧i.1≤L'.length∧cnt (pl L) o≤i.2∧i.2≤L.length) (fun i=>[(10,.p (.int .i64 (plc L' i.1:Nat))),(13,.p (.int .i64 i.2)),(14,.zU)])
   (fun i=>[([11],[.os [41] 1 (jS ((pl L').take i.1)),.p (.int .i64 l'.length)])]) (fun i=>L'.length-i.1) (k,cnt (pl L) o) ⟨Nat.le_refl _,f1,Nat.le_refl _,j0⟩ (fun i hi=>?_) (h0:=by simp[go_sem,LeS,leV,leR,leA,leL,f3,g2])
  obtain⟨i,j⟩:=i
  obtain⟨i1,i2,i3,i4⟩:=hi
  simp only at i1 i2 i3 i4
  by_cases q1:i<L'.length
  ·have d0:=Zx hcl' q1 (Nat.le_refl _)
   rw[qP,hs']at d0
   have hnx:=y7 hT h' q1
   have t1:jS ((pl L').take i)++[.int .i64 (plc L' i:Nat)]=jS ((pl L').take (i+1)):=by
    rw[List.take_succ_eq_append_getElem (by rw[qI];exact q1),zc5,Z1];rfl
   have t2:((pl L').take i).length=i:=by rw[List.length_take,qI];omega
   simp (maxSteps:=1000000) [go_sem,d0]
   refine loop (fun m:Nat=>j≤m∧m≤L.length) (fun m=>[(13,.p (.int .i64 m)),(14,.zU)]) (fun _=>[]) (fun m=>L.length-m) j ⟨Nat.le_refl _,i4⟩ (fun m hm=>?_)
   obtain⟨m1,m2⟩:=hm
   by_cases q2:c≤plc L' i
   ·by_cases q3:m<L.length
    ·have em:=zf3 q3
     have w4:IntKind.i64.wrap ((plc L m:Int)+((c:Int)-o))=(plc L m:Int)+((c:Int)-o):=by
      have:=jW hcl (k:=m) (by omega)
      exact wrap64 (by omega) (by omega)
     have w5:IntKind.i64.wrap ((m:Int)+1)=((m+1:Nat):Int):=zN (by omega)
     by_cases q4:(plc L m:Int)+((c:Int)-o)< (plc L' i:Int)
     ·simp (maxSteps:=1000000) [go_sem,q2,q3,em,w4,q4,w5]
      exact next (m+1) ⟨by omega,q3⟩ (h3:=by show L.length- (m+1)<L.length-m;omega)
     ·by_cases q5:(plc L m:Int)+((c:Int)-o)=(plc L' i:Int)
      ·have w6:IntKind.i64.wrap (plc L' i:Int)=(plc L' i:Int):=wrap64 (by omega) (by omega)
       simp (maxSteps:=1000000) [go_sem,q2,q3,em,q5,w6]
       refine Sem.Zm [] mixed ?_
       simp (maxSteps:=1000000) [go_sem,d0]
       have v1:cut (jS (pl L)) m L.length=jS ((pl L).drop m):=by simp[cut,jS,qI,List.take_of_length_le]
       have v2:((pl L).drop m).length=L.length-m:=by rw[List.length_drop,qI]
       have hdr:L'.drop i=L.drop m:=by
        refine zho h.eq h'.eq i2 m2 ?_
        have x1:plc L m=o+(plc L' i-c):=by omega
        have x2:plc L' i=c+(plc L' i-c):=by omega
        rw[x1,x2,←List.drop_drop,←List.drop_drop,h2]
        congr 1;omega
       have v3:L'.length-i=L.length-m:=by
        have:=congrArg List.length hdr
        rw[List.length_drop,List.length_drop]at this;exact this
       have v4:∀d,(plc L' (i+d):Int)=plc L (m+d)+((c:Int)-o):=fun d=>by
        rw[zcL,zcL,hdr];omega
       refine⟨m2,?_⟩
       rw[v1]
       refine loop (fun d:Nat=>d≤L.length-m) (fun d=>[(105,.p (.int .i64 d)),(16,.zU)]) (fun d=>[([11],[.os [41] 1 (jS ((pl L').take (i+d))),.p (.int .i64 l'.length)])]) (fun d=>L.length-m-d) 0 (Nat.zero_le _) (fun d hd=>?_)
       by_cases u1:d<L.length-m
       ·have u2:elemAt (jS ((pl L).drop m)) d=.int .i64 (plc L (m+d):Nat):=by
         rw[K1 (by rw[v2];exact u1),List.getElem_drop,Z1]
        have u3:IntKind.i64.wrap ((plc L (m+d):Int)+((c:Int)-o))=(plc L' (i+d):Int):=by
         rw[v4]
         have:=jW hcl (k:=m+d) (by omega)
         exact wrap64 (by omega) (by omega)
        have u4:jS ((pl L').take (i+d))++[.int .i64 (plc L' (i+d):Nat)]=jS ((pl L').take (i+(d+1))):=by
         rw[←Nat.add_assoc,List.take_succ_eq_append_getElem (by rw[qI];omega),zc5,Z1];rfl
        have u5:((pl L').take (i+d)).length=i+d:=by rw[List.length_take,qI];omega
        have u6:IntKind.i64.wrap ((d:Int)+1)=((d+1:Nat):Int):=zN (by omega)
        have u7:(d:Int)< ((L.length-m:Nat):Int):=by omega
        simp (maxSteps:=1000000) [go_sem,v2,u2,u3,u4,u5,u6,u7]
        refine⟨by omega,?_⟩
        exact xj (d+1) [([41],[11,0]),([4],[4]),([7],[7]),([8],[8]),([11],[11])] u1 (by simp[go_sem,LeS,leV,leR,leA,leL]) (by show L.length-m- (d+1)<L.length-m-d;omega)
       ·obtain rfl:d=L.length-m:=by omega
        have u8:(pl L').take (i+(L.length-m))=pl L':=List.take_of_length_le (by rw[qI];omega)
        simp (maxSteps:=1000000) [go_sem,v2,u8]
        refine Sem.za0 [] [([11],[.p (.sl 1 (jS (pl L'))),.p (.int .i64 l'.length)])] ?_
        refine Sem.of [] mixed ?_
        simp (maxSteps:=1000000) [go_sem,hs']
        exact ret
      ·simp (maxSteps:=1000000) [go_sem,q2,q3,em,w4,q4,q5,t1,t2]
       refine⟨by omega,zk hnx ?_⟩
       simp (maxSteps:=1000000) [go_sem]
       exact xj (i+1,m) [([41],[11,0]),([4],[4]),([7],[7]),([8],[8]),([11],[11])] ⟨by show k≤i+1;omega,q1,by show cnt (pl L) o≤m;omega,m2⟩ (by simp[go_sem,LeS,leV,leR,leA,leL]) (by show L'.length- (i+1)<L'.length-i;omega)
    ·simp (maxSteps:=1000000) [go_sem,q2,q3,t1,t2]
     refine⟨by omega,zk hnx ?_⟩
     simp (maxSteps:=1000000) [go_sem]
     exact xj (i+1,m) [([41],[11,0]),([4],[4]),([7],[7]),([8],[8]),([11],[11])] ⟨by show k≤i+1;omega,q1,by show cnt (pl L) o≤m;omega,m2⟩ (by simp[go_sem,LeS,leV,leR,leA,leL]) (by show L'.length- (i+1)<L'.length-i;omega)
   ·simp (maxSteps:=1000000) [go_sem,q2,t1,t2]
    refine⟨by omega,zk hnx ?_⟩
    simp (maxSteps:=1000000) [go_sem]
    exact xj (i+1,m) [([41],[11,0]),([4],[4]),([7],[7]),([8],[8]),([11],[11])] ⟨by show k≤i+1;omega,q1,by show cnt (pl L) o≤m;omega,m2⟩ (by simp[go_sem,LeS,leV,leR,leA,leL]) (by show L'.length- (i+1)<L'.length-i;omega)
  ·obtain rfl:i=L'.length:=by omega
   have t3:(pl L').take L'.length=pl L':=List.take_of_length_le (by rw[qI];omega)
   simp (maxSteps:=1000000) [go_sem,qP,hs',t3]
   refine Sem.Zm [] mixed ?_
   simp (maxSteps:=1000000) [go_sem]
   refine Sem.za0 [] [([11],[.p (.sl 1 (jS (pl L'))),.p (.int .i64 l'.length)])] ?_
   refine Sem.of [] mixed ?_
   simp (maxSteps:=1000000) [go_sem]
   exact ret
end Go.Proofs.YthbmelihnabkaaaGreat
end
section
namespace Go.Proofs.YthbmelihnabkaaaGreat
open Go.AM
set_option maxHeartbeats 4000000
set_option maxRecDepth 10000
attribute [local irreducible] za
theorem ziU {S:List Nat} {a:Int}(h:a≤0):cnt S a=0:=by
 unfold cnt
 exact List.countP_eq_zero.2 fun x _=>by simp only[decide_eq_true_eq];omega
theorem zjK [Gi] {L:List (List Int)}(h:ClL L)(a:Int):CR Tryz.prog 66 [] [.p (zd2 L),.p (.int .i64 a)] [] (is (.p (.int .i64 (plc L (cnt (pl L) a):Nat)))):=by
 refine walk Tryz.func66 5 [] [3] [] ?_
 by_cases c1:a≤0
 ·rw[ziU c1,Zy]
  simp (maxSteps:=1000000) [go_sem,Tryz.f66,c1]
  exact ret
 ·have hk:=YW (pl L) a
  rw[qI]at hk
  have h1:=V6 h a
  have h2:=zhm L (cnt (pl L) a:Nat)
  rw[zkc hk]at h2
  simp (maxSteps:=1000000) [go_sem,Tryz.f66,c1]
  refine Qt 124 h1 ?_
  simp (maxSteps:=1000000) [go_sem]
  refine Qt 123 h2 ?_
  simp (maxSteps:=1000000) [go_sem]
  exact ret
def jG:List Tok:=[[0],[0,1]]
attribute [go_sem] jG
def zi8(e:PV)(L:List (List Int)):AV→List (Tok×List AV)→Prop:=fun _ rs=>∃X,wK X L∧rs=txR e X L
def zof(e:PV)(L:List (List Int)):AV→List (Tok×List AV)→Prop:=fun _ rs=>∃X,wK X L∧Qf (St.ofR rs) (idm txT) (idm txT)=txR e X L
theorem CR.zi8 [Gi] {f:FuncId} {args:List AV} {rs:List (Tok×List AV)} {e:PV} {L:List (List Int)}(h:CR Tryz.prog f jG args rs (zof e L)):CR Tryz.prog f jG args rs (zi8 e L):=by
 refine CR.ren h 1000000 ?_
 rintro x rs' ⟨X,h1,h2⟩
 exact⟨idm txT,by decide,by decide,X,h1,h2⟩
theorem zm7 [Gi] {e:PV}(hT:qB e) {x:Tx} {L L':List (List Int)}(h:wK x L)(hl:Ln L.flatten L) {l':List Int}(h':Ln l' L')(b o c:Nat)(ho:o≤L.flatten.length)(hc:c≤l'.length)(hbo:b≤o)(hbc:b≤c)
  (h1:L.flatten.take b=l'.take b) (h2:L.flatten.drop o=l'.drop c):
  CR Tryz.prog 65 jG [.lp [0] 0,.p (zh L.flatten),.p (zh l'),.p (xA b o c)] (txR e x L) (zi8 e L'):=by
 refine CR.zi8 (walk Tryz.func65 8 [] [2] [] ?_)
 have hn:=h.n
 have hlen:=h.len
 have hs:=hl.sum
 have hn1:=hl.n
 have hn2:=h'.n
 have h8:=h.ft
 have h9:=h.tl
 have g1:=zbC x.g x.f x.t b o (cut l' b c) h.ft h.tl (by unfold cut;rw[List.length_take,List.length_drop];omega)
 have g2:=zh0 hT hl h' b o c (by omega) ho hc hbo hbc h1 h2
 obtain⟨z0,e0,rfl⟩:=qA hT
 simp (maxSteps:=1000000) [go_sem,Tryz.f65,xA]
 refine⟨⟨hbc,hc⟩,call V3 g1 ?_⟩
 rintro _ _ ⟨G,f',t',rfl,k1,k2,k3,rfl,k4⟩
 simp (maxSteps:=1000000) [go_sem]
 refine Qt 122 g2 ?_ (ha':=by simp[go_sem,xA])
 simp (maxSteps:=1000000) [go_sem]
 have hok:okS x.g x.f x.t b o=true:=by
  unfold okS
  have:=xw x.g x.f x.t h8 h9
  rw[h.held]at this
  refine decide_eq_true ⟨by omega,by omega,by omega⟩
 rw[if_pos hok,h.held]at k4
 refine zi txT (.tup []) (by simp[txT]) (by simp[go_sem,zd,leT]) ⟨⟨G,f',t'⟩,⟨k1,k2,?_,?_,h'.cl⟩,?_⟩
 ·have q1:(cut l' (b:Nat) (c:Nat)).length≤l'.length:=by unfold cut;rw[List.length_take,List.length_drop];omega
  show((G.length:Nat):Int)≤_
  omega
 ·show held G f' t'=_
  rw[k4,h'.flat]
  unfold spliced
  simp only[Int.toNat_natCast]
  rw[h1,h2]
  unfold cut
  simp only[Int.toNat_natCast]
  have e1:l'.drop c=(l'.drop b).drop (c-b):=by rw[List.drop_drop];congr 1;omega
  rw[e1,List.append_assoc,List.take_append_drop,List.take_append_drop]
 ·simp (maxSteps:=1000000) [go_sem]
end Go.Proofs.YthbmelihnabkaaaGreat
end
section
namespace Go.Proofs.YthbmelihnabkaaaGreat
open Go.AM
set_option maxHeartbeats 4000000
set_option maxRecDepth 10000
attribute [local irreducible] za
def Ji(b:Nat)(x y:List Int)(k:Nat):PV:=.agg [.int .i64 b,zh x,zh y,.int .i64 k]
def kb:PV:=.agg [.int .i64 0,.opq (.slice none 0 0),.opq (.slice none 0 0),.int .i64 0]
def okT(L:List (List Int))(f t:Int):Bool:=decide (0≤f∧f≤t∧t≤Zz L∧(plc L (kf L f):Int)=f∧(plc L (kf L t):Int)=t)
def zjC(l l':List Int)(L':List (List Int))(b o c t:Nat):PV:=
 Ji (jm l l' b o c).1 (cut l (jm l l' b o c).1 (jm l l' b o c).2.1) (cut l' (jm l l' b o c).1 (jm l l' b o c).2.2) (plc L' (cnt (pl L') (Zi l l' b t o c)))
def zle(e:PV)(x:Tx)(L:List (List Int))(v:AV):AV→List (Tok×List AV)→Prop:=fun y rs=>y=v∧Qf (St.ofR rs) (idm txT) (idm txT)=txR e x L
theorem zkz [Gi] {f:FuncId} {args:List AV} {rs:List (Tok×List AV)} {e:PV} {x:Tx} {L:List (List Int)} {v:AV}(h:CR Tryz.prog f jG args rs (zle e x L v))(hv:v.ren (inM (idm txT))=v:=by rfl):CR Tryz.prog f jG args rs (Uo (txR e x L) v):=by
 refine CR.ren h 1000000 ?_
 rintro y rs' ⟨rfl,h2⟩
 exact⟨idm txT,by decide,by decide,h2,hv⟩
theorem Xj [Gi](e:PV) {x:Tx} {L:List (List Int)}(h:wK x L)(f t:Int)(ins:List Int)(hb:okT L f t=false):
  CR Tryz.prog 20 jG [.lp [0] 0,.p (.int .i64 f),.p (.int .i64 t),.p (zh ins)] (txR e x L) (Uo (txR e x L) (.tup [.p kb,.p (.int .i64 2)])):=by
 have hg:=h.n
 have hlen:=h.len
 have gf:=jQ h.cl f
 have gt:=jQ h.cl t
 have gl:=yK x.g x.f x.t h.ft h.tl (by omega)
 rw[hlen]at gl
 unfold okT at hb
 have hb:=of_decide_eq_false hb
 obtain⟨ef,hef⟩:∃ef:Nat,ef=plc L (kf L f):=⟨_,rfl⟩
 obtain⟨et,het⟩:∃et:Nat,et=plc L (kf L t):=⟨_,rfl⟩
 rw[←hef]at gf hb
 rw[←het]at gt hb
 refine zkz (walk Tryz.func20 15 [] [10] [] ?_)
 by_cases c0:f<0
 ·simp (maxSteps:=1000000) [go_sem,Tryz.f20,c0]
  exact zi txT (.tup [.p kb,.p (.int .i64 2)]) (by simp[txT]) (by simp[go_sem,zd,leA,leT,leP,kb]) ⟨rfl,by simp[go_sem]⟩
 ·by_cases c1:t<f
  ·simp (maxSteps:=1000000) [go_sem,Tryz.f20,c0,c1]
   exact zi txT (.tup [.p kb,.p (.int .i64 2)]) (by simp[txT]) (by simp[go_sem,zd,leA,leT,leP,kb]) ⟨rfl,by simp[go_sem]⟩
  ·simp (maxSteps:=1000000) [go_sem,Tryz.f20,c0,c1]
   refine call V3 gl ?_
   rintro _ _ ⟨rfl,rfl⟩
   by_cases c2:(Zz L:Int)<t
   ·simp (maxSteps:=1000000) [go_sem,c2]
    exact zi txT (.tup [.p kb,.p (.int .i64 2)]) (by simp[txT]) (by simp[go_sem,zd,leA,leT,leP,kb]) ⟨rfl,by simp[go_sem]⟩
   ·simp (maxSteps:=1000000) [go_sem,c2]
    refine zk gf ?_
    by_cases c3:(ef:Int)=f
    ·simp (maxSteps:=1000000) [go_sem,c3]
     refine zk gt ?_
     have c4:¬(et:Int)=t:=by omega
     simp (maxSteps:=1000000) [go_sem,c4]
     exact zi txT (.tup [.p kb,.p (.int .i64 2)]) (by simp[txT]) (by simp[go_sem,zd,leA,leT,leP,kb]) ⟨rfl,by simp[go_sem]⟩
    ·simp (maxSteps:=1000000) [go_sem,c3]
     exact zi txT (.tup [.p kb,.p (.int .i64 2)]) (by simp[txT]) (by simp[go_sem,zd,leA,leT,leP,kb]) ⟨rfl,by simp[go_sem]⟩
theorem Xc [Gi] {e:PV}(hT:qB e) {x:Tx} {L:List (List Int)}(h:wK x L)(hl:Ln L.flatten L)(hn:L.flatten.length≤65536)(f t:Nat)(hft:f≤t)(ht:t≤L.flatten.length)(hf1:plc L (kf L f)=f)(ht1:plc L (kf L t)=t)
  (ins:List Int) (hi:ins.length≤65536) (hri:∀x∈ins,zu x) (hs:65536< (zX L.flatten f t ins).length):
  CR Tryz.prog 20 jG [.lp [0] 0,.p (.int .i64 f),.p (.int .i64 t),.p (zh ins)] (txR e x L) (Uo (txR e x L) (.tup [.p kb,.p (.int .i64 3)])):=by
 refine zkz (walk Tryz.func20 15 [] [10] [] ?_)
 have hg:=h.n
 have hlen:=h.len
 have hsum:=hl.sum
 have gf:=jQ h.cl f
 have gt:=jQ h.cl t
 rw[hf1]at gf
 rw[ht1]at gt
 have gl:=yK x.g x.f x.t h.ft h.tl (by omega)
 have ga:=uy x.g x.f x.t h.ft h.tl h.n
 have q0:¬(f:Int)<0:=by omega
 have q1:¬(t:Int)<f:=by omega
 have q2:¬((x.g.length:Int)- (x.t-x.f))<t:=by omega
 have hsp:=zag hT L.flatten hn hl.r f t hft ht ins hi hri
 have q4:(65536:Int)< (zX L.flatten f t ins).length:=by omega
 generalize zX L.flatten f t ins=N at hs hsp q4
 generalize ZM L.flatten f=b at hsp
 generalize onL L.flatten t=o at hsp
 generalize (vE L.flatten f t ins).length=m at hsp
 simp (maxSteps:=1000000) [go_sem,Tryz.f20,q0,q1]
 refine call V3 gl ?_
 rintro _ _ ⟨rfl,rfl⟩
 simp (maxSteps:=1000000) [go_sem,q2]
 refine zk gf ?_
 simp (maxSteps:=1000000) [go_sem]
 refine zk gt ?_
 simp (maxSteps:=1000000) [go_sem]
 refine call V3 ga ?_
 rintro _ _ ⟨rfl,rfl⟩
 rw[h.held]
 simp (maxSteps:=1000000) [go_sem]
 refine zk hsp ?_
 simp (maxSteps:=1000000) [go_sem,xA,q4]
 exact zi txT (.tup [.p kb,.p (.int .i64 3)]) (by simp[txT]) (by simp[go_sem,zd,leA,leT,leP,kb]) ⟨rfl,by simp[go_sem]⟩
theorem zaW [Gi] {e:PV}(hT:qB e) {x:Tx} {L:List (List Int)}(h:wK x L)(hl:Ln L.flatten L)(hn:L.flatten.length≤65536)(f t:Nat)(hft:f≤t)(ht:t≤L.flatten.length)(hf1:plc L (kf L f)=f)(ht1:plc L (kf L t)=t)
  (ins:List Int) (hi:ins.length≤65536) (hri:∀x∈ins,zu x) (hs:(zX L.flatten f t ins).length≤65536):
  CR Tryz.prog 20 jG [.lp [0] 0,.p (.int .i64 f),.p (.int .i64 t),.p (zh ins)] (txR e x L) (fun y rs=>zi8 e (qn za (zX L.flatten f t ins)) y rs∧
   y=.tup [.p (zjC L.flatten (zX L.flatten f t ins) (qn za (zX L.flatten f t ins)) (ZM L.flatten f) (onL L.flatten t) (ZM L.flatten f+(vE L.flatten f t ins).length) t),.p (.int .i64 0)]):=by
 refine CR.ren (R:=fun y rs=>zof e (qn za (zX L.flatten f t ins)) y rs∧
   y=.tup [.p (zjC L.flatten (zX L.flatten f t ins) (qn za (zX L.flatten f t ins)) (ZM L.flatten f) (onL L.flatten t) (ZM L.flatten f+(vE L.flatten f t ins).length) t),.p (.int .i64 0)]) ?_ 1000000 ?_
 ·refine walk Tryz.func20 15 [] [10] [] ?_
  have hg:=h.n
  have hlen:=h.len
  have hsum:=hl.sum
  have gf:=jQ h.cl f
  have gt:=jQ h.cl t
  rw[hf1]at gf
  rw[ht1]at gt
  have gl:=yK x.g x.f x.t h.ft h.tl (by omega)
  have ga:=uy x.g x.f x.t h.ft h.tl h.n
  have q0:¬(f:Int)<0:=by omega
  have q1:¬(t:Int)<f:=by omega
  have q2:¬((x.g.length:Int)- (x.t-x.f))<t:=by omega
  have hb:=vW L.flatten f
  have ho:=K9 L.flatten ht
  have hmid:(vE L.flatten f t ins).length≤(zX L.flatten f t ins).length:=by
   unfold zX;simp only[List.length_append];omega
  have hsp:=zag hT L.flatten hn hl.r f t hft ht ins hi hri
  have t1:L.flatten.take (ZM L.flatten f)=(zX L.flatten f t ins).take (ZM L.flatten f):=by
   unfold zX
   rw[List.take_append_of_le_length (by rw[List.length_take];omega),List.take_take,Nat.min_self]
  have t2:L.flatten.drop (onL L.flatten t)=(zX L.flatten f t ins).drop (ZM L.flatten f+(vE L.flatten f t ins).length):=by
   unfold zX
   have e1:(L.flatten.take (ZM L.flatten f)).length=ZM L.flatten f:=by rw[List.length_take];omega
   rw[←List.append_assoc,List.drop_left' (by rw[List.length_append,e1])]
  have t3:ZM L.flatten f+(vE L.flatten f t ins).length≤(zX L.flatten f t ins).length:=by
   unfold zX
   simp only[List.length_append,List.length_take];omega
  have hrn:∀y∈zX L.flatten f t ins,zu y:=by
   unfold zX
   refine q8 (Qp hl.r _) (q8 ?_ (ZA hl.r _))
   unfold vE
   refine kd.rune _ ?_ (q8 ?_ (q8 hri ?_))
   ·simp only[List.length_append,cut,List.length_take,List.length_drop];omega
   ·exact Qp (ZA hl.r _) _
   ·exact Qp (ZA hl.r _) _
  generalize hN:zX L.flatten f t ins=N at hs hmid hsp t1 t2 t3 hrn⊢
  generalize hB:ZM L.flatten f=b at hb hsp t1 t2 t3⊢
  generalize hO:onL L.flatten t=o at ho hsp t2⊢
  generalize hC:(vE L.flatten f t ins).length=m at hmid hsp t2 t3⊢
  obtain⟨L',hL'⟩:∃L',L'=qn za N:=⟨_,rfl⟩
  have hl':Ln N L':=⟨hL',by omega,hrn⟩
  rw[←hL']
  have hp:=zm7 hT h hl hl' b o (b+m) ho.2 t3 (by omega) (by omega) t1 t2
  have h98:=zjU L.flatten N (by omega) (by omega) b o (b+m) t ho.2 t3 (by omega) (by omega)
  have h97:=zjK hl'.cl (Zi L.flatten N b t o (b+m):Nat)
  have h100:=zim L.flatten N (by omega) (by omega) b o (b+m) (by omega) (by omega) ho.2 t3
  have n1:=zbE L.flatten N (min o (b+m)-b) b
  have n2:=zbH L.flatten N (jm L.flatten N b o (b+m)).1 o (b+m) (by unfold jm;simp only;omega) (by unfold jm;simp only;omega)
  have n3:b≤(jm L.flatten N b o (b+m)).1:=n1.1
  have n4:(jm L.flatten N b o (b+m)).2=Qo L.flatten N (jm L.flatten N b o (b+m)).1 o (b+m):=rfl
  rw[←n4]at n2
  unfold zjC
  generalize jm L.flatten N b o (b+m)=nr at h100 n2 n3⊢
  obtain⟨u,v,w⟩:=nr
  simp only at h100 n2 n3⊢
  have h99:=zeO L.flatten N (by omega) (by omega) u v w n2.1 n2.2.2.1 (by omega) (by omega)
  generalize Zi L.flatten N b t o (b+m)=af at h98 h97⊢
  generalize hfl:L.flatten=l at*
  simp (maxSteps:=1000000) [go_sem,Tryz.f20,q0,q1]
  refine call V3 gl ?_
  rintro _ _ ⟨rfl,rfl⟩
  simp (maxSteps:=1000000) [go_sem,q2]
  refine zk gf ?_
  simp (maxSteps:=1000000) [go_sem]
  refine zk gt ?_
  simp (maxSteps:=1000000) [go_sem]
  refine call V3 ga ?_
  rintro _ _ ⟨rfl,rfl⟩
  have hh:=h.held
  simp only[hfl]at hh
  rw[hh]
  simp (maxSteps:=1000000) [go_sem]
  refine zk hsp ?_
  have q4:¬(65536:Int)<N.length:=by omega
  simp (maxSteps:=1000000) [go_sem,xA,q4]
  refine call (idm txT) hp ?_ (ha':=by simp[go_sem,xA])
  rintro _ _ ⟨X,hX,rfl⟩
  simp (maxSteps:=1000000) [go_sem]
  refine Qt 67 h98 ?_ (ha':=by simp[go_sem,xA])
  simp (maxSteps:=1000000) [go_sem]
  refine Qt 66 h97 ?_
  simp (maxSteps:=1000000) [go_sem]
  refine zk h100 ?_ (ha':=by simp[go_sem,xA])
  simp (maxSteps:=1000000) [go_sem,xA]
  refine zk h99 ?_ (ha':=by simp[go_sem,xA])
  simp (maxSteps:=1000000) [go_sem,yD]
  exact zi txT (.tup [.p (Ji u (cut l u v) (cut N u w) (plc L' (cnt (pl L') af))),.p (.int .i64 0)]) (by simp[txT]) (by simp[go_sem,zd,leA,leT,leP,Ji]) ⟨⟨X,hX,by simp[go_sem]⟩,rfl⟩
 ·rintro y rs ⟨⟨X,x1,x2⟩,rfl⟩
  exact⟨idm txT,by decide,by decide,⟨X,x1,x2⟩,rfl⟩
end Go.Proofs.YthbmelihnabkaaaGreat
end
