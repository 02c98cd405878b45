/- A part of the proof of this seat's statements, by an abstract machine: what each operation does to values, and what the law's functions compute. Conditions: as each law says. -/
import Derived.Test.YthbmelihnabkaaaGreatW27
import Derived.Test.YthbmelihnabkaaaGreatW17
import Derived.Test.YthbmelihnabkaaaGreatW28
section
namespace Go.Proofs.YthbmelihnabkaaaGreat
open Go.AM
set_option maxHeartbeats 4000000
set_option maxRecDepth 10000
theorem WS [Gi] {t:zR} {c b j f p:PV}(h:jo t c b j f p)(hz:Qq t)(ck cx sk sx:List PV)(x y:Int)(hx: -2147483648≤x∧x<2147483648)(hy: -2147483648≤y∧y<2147483648):
  CR Tryz.prog 190 [[0]] [.p (.int .i32 x),.p (.int .i32 y),.lp [0] 0] [([0],[.p (zF c b j f p ck cx sk sx)])] (fun r rs=>r=.p (.int .i64 (Wz (t.cls (rn x)) (t.cls (rn y))))∧rs=[([0],[.p (zF c b j f p ck cx sk sx)])]):=by
 refine zS [1] mixed 6 [] Tryz.func190 rfl (by kernel_rfl) rfl (by simp) (by simp) ?_
 simp[go_sem,Tryz.f190]
 refine QO (.p (.int .i64 (t.cls (rn x)))) rfl rfl (fun _=>jP 105 (Z4 h ck cx sk sx hz hx) rfl ⟨rfl,by simp[Tryz.f105]⟩ ⟨by simp[go_sem],by simp[go_sem]⟩) ?_
 simp[go_sem]
 refine QO (.p (.int .i64 (t.cls (rn y)))) rfl rfl (fun _=>jP 105 (Z4 h ck cx sk sx hz hy) rfl ⟨rfl,by simp[Tryz.f105]⟩ ⟨by simp[go_sem],by simp[go_sem]⟩) ?_
 simp[go_sem]
 refine QO (.p (.int .i64 (Wz (t.cls (rn x)) (t.cls (rn y))))) rfl rfl (fun _=>jP 96 (Jb _ _) rfl ⟨rfl,by simp[Tryz.f96]⟩ ⟨by simp[go_sem],by simp[go_sem]⟩) ?_
 simp[go_sem]
 exact zi [[0]] (.p (.int .i64 (Wz (t.cls (rn x)) (t.cls (rn y))))) ⟨rfl,by simp⟩ (by simp[go_sem,zd,leA,leT]) ⟨rfl,by simp[go_sem]⟩
end Go.Proofs.YthbmelihnabkaaaGreat
end
section
namespace Go.Proofs.YthbmelihnabkaaaGreat
def qm(k:Int→Int)(l:List Int):Prop:=l.Pairwise fun a b=>k a≤k b
def qw(k:Int→Int)(l m:List Int):Prop:=∀c,l.filter (fun x=>k x==c)=m.filter (fun x=>k x==c)
theorem qw.refl(k:Int→Int)(l:List Int):qw k l l:=fun _=>rfl
theorem qw.symm {k:Int→Int} {l m:List Int}(h:qw k l m):qw k m l:=fun c=>(h c).symm
theorem qw.trans {k:Int→Int} {l m n:List Int}(h:qw k l m)(h':qw k m n):qw k l n:=fun c=>(h c).trans (h' c)
theorem qw.app {k:Int→Int} {a b c d:List Int}(h:qw k a b)(h':qw k c d):qw k (a++c) (b++d):=fun e=>by
 rw[List.filter_append,List.filter_append,h e,h' e]
theorem qw.mem {k:Int→Int} {l m:List Int}(h:qw k l m) {x:Int}(hx:x∈l):x∈m:=by
 have:x∈l.filter (fun y=>k y==k x):=List.mem_filter.2 ⟨hx,by simp⟩
 rw[h (k x)]at this
 exact(List.mem_filter.1 this).1
theorem qw.uniq {k:Int→Int}:∀{l m:List Int},qm k l→qm k m→qw k l m→l=m
 | [],[],_,_,_=>rfl
 | [],y::m,_,_,h=>by have:=h.symm.mem (x:=y) (by simp);simp at this
 |x::l,[],_,_,h=>by have:=h.mem (x:=x) (by simp);simp at this
 |x::l,y::m,h1,h2,h=>by
  have hx:k x≤k y:=by
   have:=h.symm.mem (x:=y) (by simp)
   rcases List.mem_cons.1 this with e|e
   ·rw[e];exact Int.le_refl _
   ·exact(List.pairwise_cons.1 h1).1 y e
  have hy:k y≤k x:=by
   have:=h.mem (x:=x) (by simp)
   rcases List.mem_cons.1 this with e|e
   ·rw[e];exact Int.le_refl _
   ·exact(List.pairwise_cons.1 h2).1 x e
  have hk:k x=k y:=by omega
  have hc:=h (k x)
  rw[List.filter_cons_of_pos (by simp),List.filter_cons_of_pos (by simp[hk])]at hc
  injection hc with e1 e2
  subst e1
  rw[qw.uniq (List.pairwise_cons.1 h1).2 (List.pairwise_cons.1 h2).2 (fun c=>by
   have:=h c
   by_cases hcx:k x=c
   ·rw[List.filter_cons_of_pos (by simp[hcx]),List.filter_cons_of_pos (by simp[hcx])]at this
    injection this
   ·rw[List.filter_cons_of_neg (by simp[hcx]),List.filter_cons_of_neg (by simp[hcx])]at this
    exact this)]
theorem qw.swap {k:Int→Int} {a b:List Int}(h:∀x∈a,∀y∈b,k x≠k y):qw k (a++b) (b++a):=fun c=>by
 rw[List.filter_append,List.filter_append]
 by_cases ha:∃x∈a,k x=c
 ·obtain⟨x,hx,rfl⟩:=ha
  have:b.filter (fun y=>k y==k x)=[]:=List.filter_eq_nil_iff.2 fun y hy=>by
   have:=h x hx y hy
   simpa using fun e=>this e.symm
  rw[this];simp
 ·have:a.filter (fun y=>k y==c)=[]:=List.filter_eq_nil_iff.2 fun y hy=>by
   simpa using fun e=>ha ⟨y,hy,e⟩
  rw[this];simp
theorem qm.app {k:Int→Int} {a b:List Int}(h1:qm k a)(h2:qm k b)(h:∀x∈a,∀y∈b,k x≤k y):qm k (a++b):=List.pairwise_append.2 ⟨h1,h2,h⟩
theorem qm.left {k:Int→Int} {a b:List Int}(h:qm k (a++b)):qm k a:=(List.pairwise_append.1 h).1
theorem qm.right {k:Int→Int} {a b:List Int}(h:qm k (a++b)):qm k b:=(List.pairwise_append.1 h).2.1
theorem qm.UM {k:Int→Int} {a b:List Int}(h:qm k (a++b)):∀x∈a,∀y∈b,k x≤k y:=(List.pairwise_append.1 h).2.2
def QF(k:Int→Int)(l m:List Int):Prop:=qm k m∧qw k m l
theorem zjj {k:Int→Int} {a1 a2 b1 b2 r1 r2:List Int}(hA:qm k (a1++a2))(hB:qm k (b1++b2))(h1:∀x∈a1,∀y∈b2,k x≤k y)(h2:∀x∈a2,∀y∈b1,k y<k x)
  (hr1:QF k (a1++b1) r1) (hr2:QF k (a2++b2) r2):QF k (a1++a2++(b1++b2)) (r1++r2):=by
 refine⟨qm.app hr1.1 hr2.1 fun x hx y hy=>?_,?_⟩
 ·have hx':=hr1.2.mem hx
  have hy':=hr2.2.mem hy
  rcases List.mem_append.1 hx' with hx'|hx'<;>rcases List.mem_append.1 hy' with hy'|hy'
  ·exact hA.UM x hx' y hy'
  ·exact h1 x hx' y hy'
  ·have:=h2 y hy' x hx';omega
  ·exact hB.UM x hx' y hy'
 ·have hs:qw k (b1++a2) (a2++b1):=qw.swap fun x hx y hy=>by have:=h2 y hy x hx;omega
  have:=(qw.refl k a1).app (hs.app (qw.refl k b2))
  have h3:=hr1.2.app hr2.2
  refine h3.trans ?_
  simpa[List.append_assoc]using this
theorem QF.refl {k:Int→Int} {l:List Int}(h:qm k l):QF k l l:=⟨h,qw.refl k l⟩
theorem QF.uniq {k:Int→Int} {l m n:List Int}(h:QF k l m)(h':QF k l n):m=n:=qw.uniq h.1 h'.1 (h.2.trans h'.2.symm)
theorem QF.trans {k:Int→Int} {l m n:List Int}(h:qw k m l)(h':QF k m n):QF k l n:=⟨h'.1,h'.2.trans h⟩
theorem qw.perm {k:Int→Int} {l m:List Int}(h:qw k l m):l.Perm m:=by
 rw[List.perm_iff_count]
 intro x
 have hc:∀n:List Int,n.count x=(n.filter (fun y=>k y==k x)).count x:=fun n=>by
  induction n with
  |nil=>rfl
  |cons y n ih=>
   by_cases e:y=x
   ·subst e;rw[List.filter_cons_of_pos (by simp),List.count_cons_self,List.count_cons_self,ih]
   ·rw[List.count_cons_of_ne e,ih]
    by_cases e2:k y=k x
    ·rw[List.filter_cons_of_pos (by simp[e2]),List.count_cons_of_ne e]
    ·rw[List.filter_cons_of_neg (by simp[e2])]
 rw[hc l,hc m,h (k x)]
end Go.Proofs.YthbmelihnabkaaaGreat
end
section
namespace Go.Proofs.YthbmelihnabkaaaGreat
open Go.AM
set_option maxHeartbeats 4000000
set_option maxRecDepth 10000
def zK(t:zR)(x:Int):Int:=t.cls (rn x)
theorem vD {k:Int→Int} {L0 D1 D2:List Int} {x:Int}(hD:QF k L0 (D1++D2))(h1:∀y∈D1,k y≤k x)(h2:∀y∈D2,k x<k y):QF k (L0++[x]) (D1++(x::D2)):=by
 obtain⟨hs,hm⟩:=hD
 refine⟨qm.app hs.left (List.pairwise_cons.2 ⟨fun y hy=>by have:=h2 y hy;omega,hs.right⟩) fun y hy z hz=>?_,?_⟩
 ·rcases List.mem_cons.1 hz with rfl|hz
  ·exact h1 y hy
  ·exact hs.UM y hy z hz
 ·have e1:qw k ([x]++D2) (D2++[x]):=qw.swap fun a ha b hb=>by
   rw[List.mem_singleton.1 ha];have:=h2 b hb;omega
  have e2:=(qw.refl k D1).app e1
  have e3:=hm.app (qw.refl k [x])
  refine qw.trans ?_ e3
  simpa[List.append_assoc]using e2
def zhe:OT:=.now 0 0 (.now 1 0 (.now 2 2 (.now 3 2 (.now 4 2 (.now 5 0 (.now 6 0 (.now 7 0 (.now 8 0 (.now 9 0 (.now 10 0 (.now 11 0 (.now 12 0 (.now 13 0 (.now 14 0 (.mk [(15,.now 16 0 (.mk [(17,.mk [])]))])))))))))))))))
theorem Vy(A B:List Int)(z x:Int):((A++z::x::B).set (A.length+1) z).set A.length x=A++x::z::B:=by
 simp
theorem Y1 [Gi] {t:zR} {c b j f p:PV}(h:jo t c b j f p)(hz:Qq t)(ck cx sk sx:List PV)(P L R:List Int)(o n a:Nat)(hP:P.length=o+a)(hL:0<L.length)(ha:a+L.length≤n)(hS:o+n≤(P++(L++R)).length)(hn:(P++(L++R)).length<2^40)(hr:∀x∈L, -2147483648≤x∧x<2147483648):
  CR Tryz.prog 215 [[0],[1]] [.la [0] 1 o n,.p (.int .i64 a),.p (.int .i64 ((a+L.length:Nat):Int)),jI] [([0],zo (P++(L++R))),([1],[.p (zF c b j f p ck cx sk sx)])]
   (fun x rs=>∃L',QF (zK t) L L'∧x=.tup []∧rs=[([0],zo (P++(L'++R))),([1],[.p (zF c b j f p ck cx sk sx)])]):=by
 refine zS [200006] mixed 10 [] Tryz.func215 rfl (by kernel_rfl) rfl (by simp) (by simp) ?_
 have w1:IntKind.i64.wrap ((a:Int)+1)=((a+1:Nat):Int):=by rw[wrap64 (by simp at hS hn;omega) (by simp at hS hn;omega)];rfl
 simp (maxSteps:=1000000) [go_sem,Tryz.f215,jI,w1]
 obtain⟨y0,l0,hl0⟩:∃y l,L=y::l:=by
  cases L with
  |nil=>simp at hL
  |cons y l=>exact⟨y,l,rfl⟩
 refine zm (fun r:List Int×List Int×List Int=>L=r.1++r.2.2∧QF (zK t) r.1 r.2.1∧0<r.2.1.length∧r.1.length=r.2.1.length) (fun r=>[(8,.p (.int .i64 ((a+r.2.1.length:Nat):Int)))]) (fun r=>[([0],zo (P++(r.2.1++(r.2.2++R))))]) (fun r=>r.2.2.length) ([y0],[y0],l0)
  ⟨hl0,QF.refl (by simp[qm]),by simp,rfl⟩ (by simp[go_sem,LeS,leV,leR,leA,leL,zj,hl0]) (fun r hr'=>?_)
 obtain⟨L0,D,E⟩:=r
 obtain⟨q1,q2,q3,q4⟩:=hr'
 simp only at q1 q2 q3 q4
 simp (maxSteps:=1000000) [go_sem]
 have hLl:L.length=D.length+E.length:=by rw[q1];simp;omega
 have hSl:(P++(L++R)).length=P.length+L.length+R.length:=by simp;omega
 rw[hSl]at hS hn
 refine zw (fun h1=>?_) (fun h1=>?_)
 ·obtain⟨x,E',hE⟩:∃x l,E=x::l:=by
   cases E with
   |nil=>simp at hLl;omega
   |cons y l=>exact⟨y,l,rfl⟩
  subst hE
  simp (maxSteps:=1000000) [go_sem]
  refine zm (fun r:List Int×List Int=>D=r.1++r.2∧∀y∈r.2,zK t x<zK t y) (fun r=>[(9,.p (.int .i64 ((a+r.1.length:Nat):Int)))]) (fun r=>[([0],zo (P++(r.1++(x::(r.2++(E'++R))))))]) (fun r=>r.1.length) (D,[]) ⟨by simp,by simp⟩ (by simp[go_sem,LeS,leV,leR,leA,leL,zj]) (fun r hr2=>?_)
  obtain⟨D1,D2⟩:=r
  obtain⟨p1,p2⟩:=hr2
  simp only at p1 p2
  have hD:D.length=D1.length+D2.length:=by rw[p1];simp
  by_cases hD1:0<D1.length
  ·obtain⟨D3,z,hD3⟩:∃l z,D1=l++[z]:=by
    rcases List.eq_nil_or_concat D1 with e|⟨l,z,e⟩
    ·rw[e]at hD1;simp at hD1
    ·exact⟨l,z,by rw[e];simp⟩
   have hD1l:D1.length=D3.length+1:=by rw[hD3];simp
   obtain⟨jn,hj⟩:∃jn,jn=a+D3.length:=⟨_,rfl⟩
   have ej:(a:Int)+(D1.length:Int)=((jn+1:Nat):Int):=by omega
   have wj:IntKind.i64.wrap (((jn+1:Nat):Int)-1)=(jn:Int):=by rw[wrap64 (by omega) (by omega)];omega
   have gx:(zo (P++(D1++(x::(D2++(E'++R))))))[o+(jn+1)]?=some (.p (.int .i32 x)):=by
    have:(P++(D1++(x::(D2++(E'++R)))))[o+(jn+1)]?=some x:=by
     rw[List.getElem?_append_right (by omega),List.getElem?_append_right (by omega)]
     have:o+(jn+1)-P.length-D1.length=0:=by omega
     rw[this];rfl
    rw[zo,List.getElem?_map,List.getElem?_map,this];rfl
   have gz:(zo (P++(D1++(x::(D2++(E'++R))))))[o+jn]?=some (.p (.int .i32 z)):=by
    have:(P++(D1++(x::(D2++(E'++R)))))[o+jn]?=some z:=by
     rw[List.getElem?_append_right (by omega),List.getElem?_append_left (by omega),hD3,List.getElem?_append_right (by omega)]
     have:o+jn-P.length-D3.length=0:=by omega
     rw[this];rfl
    rw[zo,List.getElem?_map,List.getElem?_map,this];rfl
   have hzr: -2147483648≤z∧z<2147483648:=by
    have hz:z∈D:=by rw[p1,hD3];simp
    have:=q2.2.mem hz
    exact hr z (by rw[q1];simp[this])
   have hxr: -2147483648≤x∧x<2147483648:=hr x (by rw[q1];simp)
   have hjn:jn+1<n:=by omega
   have g1:a<jn+1:=by omega
   have en:a+D1.length=jn+1:=by omega
   simp only[en]
   have g1':(a:Int)< (jn:Int)+1:=by omega
   have wj':IntKind.i64.wrap (jn:Int)=jn:=wrap64 (by omega) (by omega)
   have hjn':(jn:Int)+1<n:=by omega
   have hjn2:jn<n:=by omega
   have hj0:(0:Int)≤(jn:Int)+1:=by omega
   have ejt:((jn:Int)+1).toNat=jn+1:=by omega
   simp (maxSteps:=1000000) [go_sem,g1',hjn',hjn2,hj0,wj',ejt,gx,gz]
   refine⟨⟨rfl,by simp[Tryz.f190]⟩,vS [([0],[1])] (WS h hz ck cx sk sx x z hxr hzr) (by simp[go_sem,zE]) ⟨by simp[go_sem],by simp[go_sem]⟩ (by simp[go_sem]) ?_⟩
   rintro _ _ ⟨rfl,rfl⟩
   simp (maxSteps:=1000000) [go_sem]
   have hw2:(a:Int)+D.length+1=(a:Int)+(D.length+1):=by omega
   have wD:IntKind.i64.wrap ((a:Int)+D.length+1)=(a:Int)+D.length+1:=wrap64 (by omega) (by omega)
   have wD':IntKind.i64.wrap ((a:Int)+((D.length:Int)+1))=(a:Int)+((D.length:Int)+1):=wrap64 (by omega) (by omega)
   refine zw (fun hc=>?_) (fun hc=>?_)
   ·have hlt:zK t x<zK t z:=by
     unfold Wz at hc
     split at hc
     ·assumption
     ·split at hc<;>omega
    simp (maxSteps:=1000000) [go_sem]
    refine Zh zhe (by kernel_rfl) ?_
    have hMl:(P++(D1++(x::(D2++(E'++R))))).length=P.length+L.length+R.length:=by rw[hLl,hD];simp;omega
    have px:=qU (M:=P++(D1++(x::(D2++(E'++R))))) (i:=o+(jn+1)) z (by omega)
    have py:=qU (M:=(P++(D1++(x::(D2++(E'++R))))).set (o+(jn+1)) z) (i:=o+jn) x (by rw[List.length_set];omega)
    have hfin:((P++(D1++(x::(D2++(E'++R))))).set (o+(jn+1)) z).set (o+jn) x=P++(D3++(x::(z::(D2++(E'++R))))):=by
     have e:=Vy (P++D3) (D2++(E'++R)) z x
     have e1:(P++D3).length=o+jn:=by simp;omega
     rw[e1]at e
     rw[hD3]
     simp only[List.append_assoc,List.cons_append,List.nil_append,Nat.add_assoc]at e⊢
     exact e
    rw[hfin]at py
    generalize P++(D1++(x::(D2++(E'++R))))=M at px py gx gz hMl
    simp (maxSteps:=1000000) [go_sem,zhe,hjn',hjn2,hj0,wj',ejt,gx,gz,px,py,hMl]
    refine⟨by omega,by omega,zf (D3,z::D2) ⟨by rw[p1,hD3];simp,fun y hy=>?_⟩ (by simp[go_sem,LeS,leV,leR,leA,leL,zj];omega) (by simp only;omega)⟩
    rcases List.mem_cons.1 hy with rfl|hy
    ·exact hlt
    ·exact p2 y hy
   ·have hge:zK t z≤zK t x:=by
     unfold Wz at hc
     split at hc
     ·omega
     ·show t.cls (rn z)≤t.cls (rn x);omega
    simp (maxSteps:=1000000) [go_sem,wD]
    refine zf (L0++[x],D1++(x::D2),E') ⟨by rw[q1];simp,vD (by rw[←p1];exact q2) (fun y hy=>?_) p2,by simp;omega,by simp;omega⟩ (by simp[go_sem,LeS,leV,leR,leA,leL,zj];omega) (by simp)
    rw[hD3]at hy
    rcases List.mem_append.1 hy with hy|hy
    ·have hsD:=q2.1
     rw[p1,hD3]at hsD
     have:=hsD.left.UM y hy z (by simp)
     omega
    ·rw[List.mem_singleton.1 hy];exact hge
  ·obtain rfl:D1=[]:=List.eq_nil_of_length_eq_zero (by omega)
   simp (maxSteps:=1000000) [go_sem]
   have wD:IntKind.i64.wrap ((a:Int)+D.length+1)=(a:Int)+D.length+1:=wrap64 (by omega) (by omega)
   have wD':IntKind.i64.wrap ((a:Int)+((D.length:Int)+1))=(a:Int)+((D.length:Int)+1):=wrap64 (by omega) (by omega)
   have hDD:D=D2:=by simpa using p1
   subst hDD
   refine zf (L0++[x],x::D,E') ⟨by rw[q1];simp,vD (D1:=[]) (by simpa using q2) (by simp) p2,by simp,by simp;omega⟩ (by simp[go_sem,LeS,leV,leR,leA,leL,zj,wD',Int.add_assoc]) (by simp)
 ·obtain rfl:E=[]:=List.eq_nil_of_length_eq_zero (by omega)
  simp (maxSteps:=1000000) [go_sem]
  refine zi [[0],[1]] (.tup []) ⟨rfl,by simp⟩ (by simp[go_sem,zd,leT]) ⟨D,by rw[q1,List.append_nil];exact q2,rfl,by simp[go_sem]⟩
end Go.Proofs.YthbmelihnabkaaaGreat
end
section
namespace Go.Proofs.YthbmelihnabkaaaGreat
theorem zfG {k:Int→Int} {B1 B2:List Int} {x:Int}(hB:qm k (B1++B2))(h1:∀y∈B1,k y<k x)(h2:∀y∈B2,k x≤k y):QF k ([x]++(B1++B2)) (B1++(x::B2)):=by
 refine⟨qm.app hB.left (List.pairwise_cons.2 ⟨h2,hB.right⟩) fun y hy z hz=>?_,?_⟩
 ·rcases List.mem_cons.1 hz with rfl|hz
  ·have:=h1 y hy;omega
  ·exact hB.UM y hy z hz
 ·have e1:qw k (B1++[x]) ([x]++B1):=qw.swap fun a ha b hb=>by
   rw[List.mem_singleton.1 hb];have:=h1 a ha;omega
  have e2:=e1.app (qw.refl k B2)
  simpa[List.append_assoc]using e2
theorem merge_right {k:Int→Int} {A1 A2:List Int} {x:Int}(hA:qm k (A1++A2))(h1:∀y∈A1,k y≤k x)(h2:∀y∈A2,k x<k y):QF k (A1++A2++[x]) (A1++(x::A2)):=by
 refine⟨qm.app hA.left (List.pairwise_cons.2 ⟨fun y hy=>by have:=h2 y hy;omega,hA.right⟩) fun y hy z hz=>?_,?_⟩
 ·rcases List.mem_cons.1 hz with rfl|hz
  ·exact h1 y hy
  ·exact hA.UM y hy z hz
 ·have e1:qw k ([x]++A2) (A2++[x]):=qw.swap fun a ha b hb=>by
   rw[List.mem_singleton.1 ha];have:=h2 b hb;omega
  have e2:=(qw.refl k A1).app e1
  simpa[List.append_assoc]using e2
theorem qm.get {k:Int→Int} {l:List Int}(h:qm k l) {i j:Nat}(hi:i<l.length)(hj:j<l.length)(hij:i≤j):k l[i]≤k l[j]:=by
 rcases Nat.lt_or_ge i j with h1|h1
 ·exact List.pairwise_iff_getElem.1 h i j hi hj h1
 ·obtain rfl:i=j:=by omega
  exact Int.le_refl _
theorem zlE {k:Int→Int} {A B:List Int}(hA:qm k A)(hB:qm k B) {s e:Nat}(hs:s≤A.length)(he:e≤B.length)
  (h1:∀(_:0<s) (h:e<B.length),k (A[s-1]'(by omega))≤k B[e]) (h2:∀(h:s<A.length) (_:0<e),k (B[e-1]'(by omega))<k A[s]):
  (∀x∈A.take s,∀y∈B.drop e,k x≤k y)∧∀x∈A.drop s,∀y∈B.take e,k y<k x:=by
 refine⟨fun x hx y hy=>?_,fun x hx y hy=>?_⟩
 ·obtain⟨i,hi,rfl⟩:=List.mem_iff_getElem.1 hx
  obtain⟨j,hj,rfl⟩:=List.mem_iff_getElem.1 hy
  simp only[List.length_take,List.length_drop]at hi hj
  rw[List.getElem_take,List.getElem_drop]
  have a1:=hA.get (i:=i) (j:=s-1) (by omega) (by omega) (by omega)
  have a2:=hB.get (i:=e) (j:=e+j) (by omega) (by omega) (by omega)
  have a3:=h1 (by omega) (by omega)
  omega
 ·obtain⟨i,hi,rfl⟩:=List.mem_iff_getElem.1 hx
  obtain⟨j,hj,rfl⟩:=List.mem_iff_getElem.1 hy
  simp only[List.length_take,List.length_drop]at hi hj
  rw[List.getElem_drop,List.getElem_take]
  have a1:=hA.get (i:=s) (j:=s+i) (by omega) (by omega) (by omega)
  have a2:=hB.get (i:=j) (j:=e-1) (by omega) (by omega) (by omega)
  have a3:=h2 (by omega) (by omega)
  omega
end Go.Proofs.YthbmelihnabkaaaGreat
end
section
namespace Go.Proofs.YthbmelihnabkaaaGreat
open Go.AM
set_option maxHeartbeats 4000000
set_option maxRecDepth 10000
theorem Zw {M:List Int} {i:Nat} {v:Int}(h:M[i]?=some v):(zo M)[i]?=some (.p (.int .i32 v)):=by
 rw[zo,List.getElem?_map,List.getElem?_map,h];rfl
theorem za6 {P A R:List Int} {o a c:Nat}(hP:P.length=o+a)(h1:a≤c)(h2:c-a<A.length):(P++(A++R))[o+c]?=some A[c-a]:=by
 rw[List.getElem?_append_right (by omega),List.getElem?_append_left (by omega)]
 have:o+c-P.length=c-a:=by omega
 rw[this,List.getElem?_eq_getElem h2]
theorem Ja {P A B R:List Int} {o a m c:Nat}(hP:P.length=o+a)(hA:a+A.length=m)(h1:m≤c)(h2:c-m<B.length):(P++(A++(B++R)))[o+c]?=some B[c-m]:=by
 rw[List.getElem?_append_right (by omega),List.getElem?_append_right (by omega),List.getElem?_append_left (by omega)]
 have:o+c-P.length-A.length=c-m:=by omega
 rw[this,List.getElem?_eq_getElem h2]
theorem zdy {k:Int→Int} {l:List Int}(h:qm k l) {q:Nat}(hq:q<l.length):∀y∈l.take (q+1),k y≤k l[q]:=fun y hy=>by
 obtain⟨i,hi,rfl⟩:=List.mem_iff_getElem.1 hy
 simp only[List.length_take]at hi
 rw[List.getElem_take]
 exact h.get (by omega) hq (by omega)
theorem zdQ {k:Int→Int} {l:List Int}(h:qm k l) {q:Nat}(hq:q<l.length):∀y∈l.drop q,k l[q]≤k y:=fun y hy=>by
 obtain⟨i,hi,rfl⟩:=List.mem_iff_getElem.1 hy
 simp only[List.length_drop]at hi
 rw[List.getElem_drop]
 exact h.get hq (by omega) (by omega)
theorem x0 {a b:Int}:Wz a b<0↔a<b:=by
 unfold Wz
 split
 ·simp;assumption
 ·split
  ·simp;omega
  ·simp;omega
theorem zgM(A B:List Int)(x y:Int):((A++x::y::B).set A.length y).set (A.length+1) x=A++y::x::B:=by
 simp
theorem X8(X Y:List Int)(x y:Int) {j:Nat}(h:j=X.length+1):(X++x::y::Y)[j]?=some y:=by
 subst h
 rw[List.getElem?_append_right (by omega)]
 have:X.length+1-X.length=1:=by omega
 rw[this];rfl
theorem zlA [Gi] {t:zR} {c b j f p:PV}(h:jo t c b j f p)(hz:Qq t)(ck cx sk sx:List PV)(P B S:List Int)(x:Int)(o n a m e:Nat)(hP:P.length=o+a)(hm:m=a+1)(hB:B.length=e-m)(hme:m<e)(hen:e≤n)
  (hS:o+n≤(P++([x]++(B++S))).length) (hn:(P++([x]++(B++S))).length<2^40) (hr:∀y∈B, -2147483648≤y∧y<2147483648) (hx: -2147483648≤x∧x<2147483648) (hs:qm (zK t) B):
  CR Tryz.prog 216 [[0],[1]] [.la [0] 1 o n,.p (.int .i64 a),.p (.int .i64 m),.p (.int .i64 e),jI] [([0],zo (P++([x]++(B++S)))),([1],[.p (zF c b j f p ck cx sk sx)])]
   (fun r rs=>∃L',QF (zK t) ([x]++B) L'∧r=.tup []∧rs=[([0],zo (P++(L'++S))),([1],[.p (zF c b j f p ck cx sk sx)])]):=by
 refine zS [200011,200023] mixed 25 [] Tryz.func216 rfl (by kernel_rfl) rfl (by simp) (by simp) ?_
 have hl:(P++([x]++(B++S))).length=P.length+1+B.length+S.length:=by simp;omega
 rw[hl]at hS hn
 have w1:IntKind.i64.wrap ((m:Int)-a)=1:=by rw[wrap64 (by omega) (by omega)];omega
 simp (maxSteps:=1000000) [go_sem,Tryz.f216,jI,w1]
 refine zm (fun r:Nat×Nat=>r.1≤r.2∧r.2≤B.length∧(∀y∈B.take r.1,zK t y<zK t x)∧∀y∈B.drop r.2,zK t x≤zK t y) (fun r=>[(10,.p (.int .i64 ((m+r.1:Nat):Int))),(11,.p (.int .i64 ((m+r.2:Nat):Int)))]) (fun _=>[]) (fun r=>r.2-r.1) (0,B.length)
  ⟨by simp,by simp,by simp,by simp⟩ (by simp[go_sem,LeS,leV,leR,leA,leL,zj,hB];omega) (fun r hr'=>?_)
 obtain⟨i,k⟩:=r
 obtain⟨q1,q2,q3,q4⟩:=hr'
 simp only at q1 q2 q3 q4
 simp (maxSteps:=1000000) [go_sem]
 refine zw (fun h1=>?_) (fun h1=>?_)
 ·obtain⟨s,hs'⟩:∃s,s=(m+i)+(m+k):=⟨_,rfl⟩
  obtain⟨g,hg⟩:∃g,g=s/2:=⟨_,rfl⟩
  have v1:IntKind.i64.wrap ((m:Int)+i+(m+k))=(s:Int):=by rw[wrap64 (by omega) (by omega)];omega
  have v2:IntKind.u64.wrap (s:Int)=(s:Int):=VJ (by omega) (by omega)
  have v3:(s:Int).fdiv 2=(g:Int):=by rw[Int.fdiv_eq_ediv_of_nonneg _ (by omega)];omega
  have v4:IntKind.i64.wrap (g:Int)=(g:Int):=wrap64 (by omega) (by omega)
  have v5:IntKind.i64.wrap ((g:Int)+1)=((g+1:Nat):Int):=by rw[wrap64 (by omega) (by omega)];rfl
  have v6:IntKind.u64.wrap (g:Int)=(g:Int):=VJ (by omega) (by omega)
  have gq:=Zw (Ja (R:=S) (A:=[x]) (B:=B) hP (by simp;omega) (show m≤g by omega) (by omega))
  have gx:=Zw (za6 (R:=B++S) (A:=[x]) (c:=a) hP (by omega) (by simp))
  obtain⟨y,hy⟩:∃y,y=B[g-m]'(by omega):=⟨_,rfl⟩
  have hyr: -2147483648≤y∧y<2147483648:=hr y (by rw[hy];exact List.getElem_mem _)
  rw[←hy]at gq
  have gx':(zo (P++(x::(B++S))))[o+a]?=some (.p (.int .i32 x)):=by simpa using gx
  have gq':(zo (P++(x::(B++S))))[o+g]?=some (.p (.int .i32 y)):=by simpa using gq
  have hgn:g<n:=by omega
  have han:a<n:=by omega
  simp (maxSteps:=1000000) [go_sem,v1,v2,v3,v4,gx',gq',hgn,han]
  refine⟨⟨rfl,by simp[Tryz.f190]⟩,vS [([0],[1])] (WS h hz ck cx sk sx y x hyr hx) (by simp[go_sem,zE]) ⟨by simp[go_sem],by simp[go_sem]⟩ (by simp[go_sem]) ?_⟩
  rintro _ _ ⟨rfl,rfl⟩
  simp (maxSteps:=1000000) [go_sem]
  refine zw (fun hc=>?_) (fun hc=>?_)
  ·have hlt:zK t y<zK t x:=x0.1 hc
   have e5:(m:Int)+((g+1-m:Nat):Int)=(g:Int)+1:=by omega
   simp (maxSteps:=1000000) [go_sem,v5]
   refine zf (g+1-m,k) ⟨by show g+1-m≤k;omega,q2,fun z hz'=>?_,q4⟩ (by simp[go_sem,LeS,leV,leR,leA,leL,zj,e5]) (by show k- (g+1-m)<k-i;omega)
   have e6:g+1-m=g-m+1:=by omega
   simp only[e6]at hz'
   have:=zdy hs (show g-m<B.length by omega) z hz'
   rw[←hy]at this
   omega
  ·have hge:zK t x≤zK t y:=by
    have:=mt x0.2 hc
    show t.cls (rn x)≤t.cls (rn y);omega
   have e5:(m:Int)+((g-m:Nat):Int)=(g:Int):=by omega
   simp (maxSteps:=1000000) [go_sem]
   refine zf (i,g-m) ⟨by show i≤g-m;omega,by show g-m≤B.length;omega,q3,fun z hz'=>?_⟩ (by simp[go_sem,LeS,leV,leR,leA,leL,zj,e5]) (by show g-m-i<k-i;omega)
   have:=zdQ hs (show g-m<B.length by omega) z hz'
   rw[←hy]at this
   omega
 ·obtain rfl:i=k:=by omega
  obtain⟨B1,hB1⟩:∃l,l=B.take i:=⟨_,rfl⟩
  obtain⟨B2,hB2⟩:∃l,l=B.drop i:=⟨_,rfl⟩
  have hBB:B=B1++B2:=by rw[hB1,hB2,List.take_append_drop]
  have hl1:B1.length=i:=by rw[hB1];simp;omega
  rw[←hB1]at q3
  rw[←hB2]at q4
  clear hB1 hB2
  subst hBB
  have hl2:(B1++B2).length=B1.length+B2.length:=by simp
  rw[hl2]at hB hS hn q2
  have w2:IntKind.i64.wrap ((m:Int)+i-1)=((a+i:Nat):Int):=by rw[wrap64 (by omega) (by omega)];omega
  simp (maxSteps:=1000000) [go_sem]
  refine zm (fun d:Nat=>d≤B1.length) (fun d=>[(13,.p (.int .i64 ((a+d:Nat):Int)))]) (fun d=>[([0],zo (P++(B1.take d++(x::(B1.drop d++(B2++S))))))]) (fun d=>B1.length-d) 0 (by omega) (by simp[go_sem,LeS,leV,leR,leA,leL,zj]) (fun d hd=>?_)
  simp (maxSteps:=1000000) [go_sem,w2]
  refine zw (fun h2=>?_) (fun h2=>?_)
  ·have hdl:d<B1.length:=by omega
   obtain⟨y,hy⟩:∃y,B1[d]=y:=⟨_,rfl⟩
   have hdr:B1.drop d=y::B1.drop (d+1):=by rw[←hy];exact List.drop_eq_getElem_cons hdl
   have htk:B1.take (d+1)=B1.take d++[y]:=by rw[List.take_add_one,List.getElem?_eq_getElem hdl,hy];rfl
   have htl:(B1.take d).length=d:=by simp;omega
   rw[hdr]
   obtain⟨k,hk⟩:∃k,k=a+d:=⟨_,rfl⟩
   have ek:(a:Int)+(d:Int)=(k:Int):=by omega
   simp only[ek]
   have v1:IntKind.i64.wrap ((k:Int)+1)=((k+1:Nat):Int):=by rw[wrap64 (by omega) (by omega)];rfl
   obtain⟨X,hX⟩:∃X,X=P++B1.take d:=⟨_,rfl⟩
   have hXl:X.length=o+k:=by rw[hX];simp;omega
   obtain⟨Y,hY⟩:∃Y,Y=B1.drop (d+1)++(B2++S):=⟨_,rfl⟩
   have eM:P++(B1.take d++(x::(y::B1.drop (d+1)++(B2++S))))=X++x::y::Y:=by rw[hX,hY];simp
   have hfin:=zgM X Y x y
   rw[hXl]at hfin
   have eF:X++y::x::Y=P++(B1.take (d+1)++(x::(B1.drop (d+1)++(B2++S)))):=by rw[hX,hY,htk];simp
   rw[eM]
   have hMl:(X++x::y::Y).length=P.length+1+(B1.length+B2.length)+S.length:=by rw[←eM];simp;omega
   have g0:(zo (X++x::y::Y))[o+k]?=some (.p (.int .i32 x)):=Zw (by rw[List.getElem?_append_right (by omega),hXl];simp)
   have g1:(zo (X++x::y::Y))[o+(k+1)]?=some (.p (.int .i32 y)):=Zw (X8 X Y x y (by omega))
   have px:=qU (M:=X++x::y::Y) (i:=o+k) y (by omega)
   have py:=qU (M:=(X++x::y::Y).set (o+k) y) (i:=o+(k+1)) x (by rw[List.length_set];omega)
   rw[show o+k+1=o+(k+1) by omega]at hfin
   rw[hfin,eF]at py
   generalize X++x::y::Y=M at px py g0 g1 hMl
   have hk1:k<n:=by omega
   have hk2:k+1<n:=by omega
   have hk3:(k:Int)+1<n:=by omega
   have hk4:(0:Int)≤(k:Int)+1:=by omega
   have hk5:((k:Int)+1).toNat=k+1:=by omega
   simp (maxSteps:=1000000) [go_sem]
   refine Zh zhe (by kernel_rfl) ?_
   simp (maxSteps:=1000000) [go_sem,zhe,v1,hk1,hk3,hk4,hk5,g0,g1,px,py,hMl]
   refine⟨by omega,by omega,zf (d+1) (by omega) (by simp[go_sem,LeS,leV,leR,leA,leL,zj,hk];omega) (by omega)⟩
  ·obtain rfl:d=B1.length:=by omega
   simp (maxSteps:=1000000) [go_sem]
   exact zi [[0],[1]] (.tup []) ⟨rfl,by simp⟩ (by simp[go_sem,zd,leT]) ⟨B1++(x::B2),zfG hs q3 q4,rfl,by simp[go_sem]⟩
end Go.Proofs.YthbmelihnabkaaaGreat
end
section
namespace Go.Proofs.YthbmelihnabkaaaGreat
open Go.AM
set_option maxHeartbeats 4000000
set_option maxRecDepth 10000
theorem zkW [Gi] {t:zR} {c b j f p:PV}(h:jo t c b j f p)(hz:Qq t)(ck cx sk sx:List PV)(P A S:List Int)(x:Int)(o n a m e:Nat)(hP:P.length=o+a)(hA:a+A.length=m)(hA2:2≤A.length)(hme:e=m+1)(hen:e≤n)
  (hS:o+n≤(P++(A++([x]++S))).length) (hn:(P++(A++([x]++S))).length<2^40) (hr:∀y∈A, -2147483648≤y∧y<2147483648) (hx: -2147483648≤x∧x<2147483648) (hs:qm (zK t) A):
  CR Tryz.prog 216 [[0],[1]] [.la [0] 1 o n,.p (.int .i64 a),.p (.int .i64 m),.p (.int .i64 e),jI] [([0],zo (P++(A++([x]++S)))),([1],[.p (zF c b j f p ck cx sk sx)])]
   (fun r rs=>∃L',QF (zK t) (A++[x]) L'∧r=.tup []∧rs=[([0],zo (P++(L'++S))),([1],[.p (zF c b j f p ck cx sk sx)])]):=by
 refine zS [200011,200023] mixed 25 [] Tryz.func216 rfl (by kernel_rfl) rfl (by simp) (by simp) ?_
 have hl:(P++(A++([x]++S))).length=P.length+A.length+1+S.length:=by simp;omega
 rw[hl]at hS hn
 have w1:IntKind.i64.wrap ((m:Int)-a)=(A.length:Int):=by rw[wrap64 (by omega) (by omega)];omega
 have w1':¬((A.length:Int)=1):=by omega
 have w2:IntKind.i64.wrap ((e:Int)-m)=1:=by rw[wrap64 (by omega) (by omega)];omega
 simp (maxSteps:=1000000) [go_sem,Tryz.f216,jI,w1,w1',w2]
 refine zm (fun r:Nat×Nat=>r.1≤r.2∧r.2≤A.length∧(∀y∈A.take r.1,zK t y≤zK t x)∧∀y∈A.drop r.2,zK t x<zK t y) (fun r=>[(14,.p (.int .i64 ((a+r.1:Nat):Int))),(15,.p (.int .i64 ((a+r.2:Nat):Int)))]) (fun _=>[]) (fun r=>r.2-r.1) (0,A.length)
  ⟨by simp,by simp,by simp,by simp⟩ (by simp[go_sem,LeS,leV,leR,leA,leL,zj];omega) (fun r hr'=>?_)
 obtain⟨i,k⟩:=r
 obtain⟨q1,q2,q3,q4⟩:=hr'
 simp only at q1 q2 q3 q4
 simp (maxSteps:=1000000) [go_sem]
 refine zw (fun h1=>?_) (fun h1=>?_)
 ·obtain⟨s,hs'⟩:∃s,s=(a+i)+(a+k):=⟨_,rfl⟩
  obtain⟨g,hg⟩:∃g,g=s/2:=⟨_,rfl⟩
  have v1:IntKind.i64.wrap ((a:Int)+i+(a+k))=(s:Int):=by rw[wrap64 (by omega) (by omega)];omega
  have v2:IntKind.u64.wrap (s:Int)=(s:Int):=VJ (by omega) (by omega)
  have v3:(s:Int).fdiv 2=(g:Int):=by rw[Int.fdiv_eq_ediv_of_nonneg _ (by omega)];omega
  have v4:IntKind.i64.wrap (g:Int)=(g:Int):=wrap64 (by omega) (by omega)
  have v5:IntKind.i64.wrap ((g:Int)+1)=((g+1:Nat):Int):=by rw[wrap64 (by omega) (by omega)];rfl
  have v6:IntKind.u64.wrap (g:Int)=(g:Int):=VJ (by omega) (by omega)
  have gx:=Zw (Ja (R:=S) (A:=A) (B:=[x]) (c:=m) hP hA (Nat.le_refl _) (by simp))
  have gq:=Zw (za6 (R:=[x]++S) (A:=A) (c:=g) hP (by omega) (by omega))
  obtain⟨y,hy⟩:∃y,y=A[g-a]'(by omega):=⟨_,rfl⟩
  have hyr: -2147483648≤y∧y<2147483648:=hr y (by rw[hy];exact List.getElem_mem _)
  rw[←hy]at gq
  have gx':(zo (P++(A++(x::S))))[o+m]?=some (.p (.int .i32 x)):=by simpa using gx
  have gq':(zo (P++(A++(x::S))))[o+g]?=some (.p (.int .i32 y)):=by simpa using gq
  have hgn:g<n:=by omega
  have han:m<n:=by omega
  simp (maxSteps:=1000000) [go_sem,v1,v2,v3,v4,gx',gq',hgn,han]
  refine⟨⟨rfl,by simp[Tryz.f190]⟩,vS [([0],[1])] (WS h hz ck cx sk sx x y hx hyr) (by simp[go_sem,zE]) ⟨by simp[go_sem],by simp[go_sem]⟩ (by simp[go_sem]) ?_⟩
  rintro _ _ ⟨rfl,rfl⟩
  simp (maxSteps:=1000000) [go_sem]
  refine xJ (fun hc=>?_) (fun hc=>?_)
  ·have hge:zK t y≤zK t x:=by
    have:=mt x0.2 hc
    show t.cls (rn y)≤t.cls (rn x);omega
   have e5:(a:Int)+((g+1-a:Nat):Int)=(g:Int)+1:=by omega
   simp (maxSteps:=1000000) [go_sem,v5]
   refine zf (g+1-a,k) ⟨by show g+1-a≤k;omega,q2,fun z hz'=>?_,q4⟩ (by simp[go_sem,LeS,leV,leR,leA,leL,zj,e5]) (by show k- (g+1-a)<k-i;omega)
   have e6:g+1-a=g-a+1:=by omega
   simp only[e6]at hz'
   have:=zdy hs (show g-a<A.length by omega) z hz'
   rw[←hy]at this
   omega
  ·have hlt:zK t x<zK t y:=x0.1 hc
   have e5:(a:Int)+((g-a:Nat):Int)=(g:Int):=by omega
   simp (maxSteps:=1000000) [go_sem]
   refine zf (i,g-a) ⟨by show i≤g-a;omega,by show g-a≤A.length;omega,q3,fun z hz'=>?_⟩ (by simp[go_sem,LeS,leV,leR,leA,leL,zj,e5]) (by show g-a-i<k-i;omega)
   have:=zdQ hs (show g-a<A.length by omega) z hz'
   rw[←hy]at this
   omega
 ·obtain rfl:i=k:=by omega
  obtain⟨A1,hA1⟩:∃l,l=A.take i:=⟨_,rfl⟩
  obtain⟨A2,hA2'⟩:∃l,l=A.drop i:=⟨_,rfl⟩
  have hAA:A=A1++A2:=by rw[hA1,hA2',List.take_append_drop]
  have hl1:A1.length=i:=by rw[hA1];simp;omega
  rw[←hA1]at q3
  rw[←hA2']at q4
  clear hA1 hA2'
  subst hAA
  have hl2:(A1++A2).length=A1.length+A2.length:=by simp
  rw[hl2]at hA hS hn q2
  simp (maxSteps:=1000000) [go_sem]
  refine zm (fun d:Nat=>d≤A2.length) (fun d=>[(17,.p (.int .i64 ((a+A1.length+d:Nat):Int)))]) (fun d=>[([0],zo (P++(A1++(A2.take d++(x::(A2.drop d++S))))))]) (fun d=>d) A2.length (by omega) (by simp[go_sem,LeS,leV,leR,leA,leL,zj];omega) (fun d hd=>?_)
  simp (maxSteps:=1000000) [go_sem]
  refine zw (fun h2=>?_) (fun h2=>?_)
  ·obtain⟨d,rfl⟩:∃d',d=d'+1:=⟨d-1,by omega⟩
   have hdl:d<A2.length:=by omega
   obtain⟨y,hy⟩:∃y,A2[d]=y:=⟨_,rfl⟩
   have hdr:A2.drop d=y::A2.drop (d+1):=by rw[←hy];exact List.drop_eq_getElem_cons hdl
   have htk:A2.take (d+1)=A2.take d++[y]:=by rw[List.take_add_one,List.getElem?_eq_getElem hdl,hy];rfl
   have htl:(A2.take d).length=d:=by simp;omega
   rw[htk]
   obtain⟨k,hk⟩:∃k,k=a+A1.length+d:=⟨_,rfl⟩
   have ek:(a:Int)+(A1.length:Int)+((d:Int)+1)=(k:Int)+1:=by omega
   simp only[Int.natCast_add,Int.natCast_one,ek]
   have v1:IntKind.i64.wrap ((k:Int)+1-1)=(k:Int):=by rw[wrap64 (by omega) (by omega)];omega
   have v2:IntKind.i64.wrap (k:Int)=(k:Int):=wrap64 (by omega) (by omega)
   obtain⟨X,hX⟩:∃X,X=P++(A1++A2.take d):=⟨_,rfl⟩
   have hXl:X.length=o+k:=by rw[hX];simp;omega
   obtain⟨Y,hY⟩:∃Y,Y=A2.drop (d+1)++S:=⟨_,rfl⟩
   have eM:P++(A1++(A2.take d++[y]++(x::(A2.drop (d+1)++S))))=X++y::x::Y:=by rw[hX,hY];simp
   have hfin:=Vy X Y y x
   rw[hXl]at hfin
   have eF:X++x::y::Y=P++(A1++(A2.take d++(x::(A2.drop d++S)))):=by rw[hX,hY,hdr];simp
   rw[eM]
   have hMl:(X++y::x::Y).length=P.length+(A1.length+A2.length)+1+S.length:=by rw[←eM];simp;omega
   have g0:(zo (X++y::x::Y))[o+k]?=some (.p (.int .i32 y)):=Zw (by rw[List.getElem?_append_right (by omega),hXl];simp)
   have g1:(zo (X++y::x::Y))[o+(k+1)]?=some (.p (.int .i32 x)):=Zw (X8 X Y y x (by omega))
   have px:=qU (M:=X++y::x::Y) (i:=o+(k+1)) y (by omega)
   have py:=qU (M:=(X++y::x::Y).set (o+(k+1)) y) (i:=o+k) x (by rw[List.length_set];omega)
   rw[show o+k+1=o+(k+1) by omega]at hfin
   rw[hfin,eF]at py
   generalize X++y::x::Y=M at px py g0 g1 hMl
   have hk1:k<n:=by omega
   have hk2:k+1<n:=by omega
   have hk3:(k:Int)+1<n:=by omega
   have hk4:(0:Int)≤(k:Int)+1:=by omega
   have hk5:((k:Int)+1).toNat=k+1:=by omega
   simp (maxSteps:=1000000) [go_sem]
   refine Zh zhe (by kernel_rfl) ?_
   simp (maxSteps:=1000000) [go_sem,zhe,v2,hk1,hk3,hk4,hk5,g0,g1,px,py,hMl]
   refine⟨by omega,by omega,zf d (by omega) (by simp[go_sem,LeS,leV,leR,leA,leL,zj,hk]) (by omega)⟩
  ·obtain rfl:d=0:=by omega
   simp (maxSteps:=1000000) [go_sem]
   exact zi [[0],[1]] (.tup []) ⟨rfl,by simp⟩ (by simp[go_sem,zd,leT]) ⟨A1++(x::A2),by rw[←List.append_assoc];exact merge_right hs q3 q4,rfl,by simp[go_sem]⟩
end Go.Proofs.YthbmelihnabkaaaGreat
end
