/- A part of this seat's proofs, by an abstract machine. Conditions: each law's. -/
import Derived.Test.YtfjdbbpimklecaaGreatDoorV23
set_option maxHeartbeats 4000000
set_option maxRecDepth 100000
namespace Go.Proofs.YtfjdbbpimklecaaGreatDoor
section
open Go.AM
def chainB:List Span→Bool
 | []=>true
 | [s]=>decide (s.f≤s.t)
 |s::x::l=>decide (s.f≤s.t)&&decide (s.t<x.f)&&chainB (x::l)
theorem yJ:∀l:List Span,chainB l=true→qw l
 | [],_=>trivial
 | [s],h=>⟨by simpa[chainB]using h,by simp,trivial⟩
 |s::x::l,h=>by
  simp only[chainB,Bool.and_eq_true,decide_eq_true_eq]at h
  obtain⟨⟨h1,h2⟩,h3⟩:=h
  have ih:=yJ (x::l) h3
  refine⟨h1,fun y hy=>?_,ih⟩
  rcases List.mem_cons.1 hy with rfl|hy
  ·exact h2
  ·have:=ih.2.1 y hy
   have:=ih.1
   omega
def wu(l:List Row)(k:Int):Bool:=
 chainB (zE l k)&&(zE l k).all (fun s=>decide (-1000000000≤s.t)&&decide (s.t≤1000000000))&&decide ((zE l k).length<256)&&
 chainB (zZ l k)&&(zZ l k).all (fun s=>decide (0≤s.f)&&decide (s.t≤1114111))&&decide ((zZ l k).length<256)
theorem QO {l:List Row} {k:Int}(h:wu l k=true):Zf l k:=by
 simp only[wu,Bool.and_eq_true,decide_eq_true_eq,List.all_eq_true]at h
 obtain⟨⟨⟨⟨⟨h1,h2⟩,h3⟩,h4⟩,h5⟩,h6⟩:=h
 exact⟨yJ _ h1,h2,h3,yJ _ h4,h5,h6⟩
def zfg(l:List Row):Bool:=(zZ l 2).all fun s=>decide (0≤s.a)&&decide (s.a<1114112)&&decide (0≤s.b)&&decide (s.b<1114112)
theorem zly:wu zb 1=true:=by decide+kernel
theorem zlu:wu zb 2=true:=by decide+kernel
theorem zk8:wu zb 3=true:=by decide+kernel
theorem zk3:wu zb 4=true:=by decide+kernel
theorem zk4:wu zb 5=true:=by decide+kernel
theorem zlq:wu zb 6=true:=by decide+kernel
theorem zkg:wu zb 7=true:=by decide+kernel
theorem zk1:wu zb 8=true:=by decide+kernel
theorem zk2:zfg zb=true:=by decide+kernel
theorem zkD:zb.length<2^31:=by decide+kernel
def T0:qX:=qI zb
def M0:List (Qn×Int)×List Int:=made zb
def wA(x:PV):Prop:=∃c b j f p,uv T0 c b j f p∧x=Q0 c b j f p (ckP M0.1) (cxP M0.1) (Z7 M0.2) (qe M0.2)
theorem zdt [Gi]:CR Tryz.prog 13 [] [.p (qJ zb)] [] (fun x rs=>rs=[]∧∃e,x=.p e∧wA e):=by
 have hp:∀s∈zZ zb 2,0≤s.a∧s.a<1114112∧0≤s.b∧s.b<1114112:=by
  have:=zk2
  simp only[zfg,Bool.and_eq_true,decide_eq_true_eq,List.all_eq_true]at this
  exact fun s hs=>⟨(this s hs).1.1.1,(this s hs).1.1.2,(this s hs).1.2,(this s hs).2⟩
 intro w g vs h1 h2
 refine(zes zb zkD (QO zly) (QO zlu) (QO zk8) (QO zk3) (QO zk4) (QO zlq) (QO zkg) (QO zk1) hp w g vs h1 h2).mono ?_
 rintro e w' ⟨v,x,rs',g',h3,⟨rfl,c,b,j,f,p,hT,rfl⟩,h4⟩
 exact⟨v,_,_,g',h3,⟨rfl,_,rfl,c,b,j,f,p,hT,rfl⟩,h4⟩
def rn(x:Int):Nat:=if 0≤x∧x<1114112 then x.toNat else 1114112
theorem KR {x:Int}(h:0≤x∧x<1114112):rn x=x.toNat:=if_pos h
theorem uT {x:Int}(h:¬(0≤x∧x<1114112)):rn x=1114112:=if_neg h
structure W0(t:qX):Prop where
 c:t.cls 1114112=0
 b:t.brk 1114112=0
 j:t.cnj 1114112=0
 f:t.flg 1114112=⟨false,false,false,false⟩
 p:t.par 1114112=⟨0,0⟩
theorem xJ:W0 T0:=⟨by decide+kernel,by decide+kernel,by decide+kernel,by decide+kernel,by decide+kernel⟩
theorem uH [Gi] {val:Nat→Int} {e:PV}(h:jy 1 1114112 (fun j=>[.int .i64 (val j)]) e)(hz:val 1114112=0)(i:Int):CR Tryz.prog 165 [] [.p e,.p (.int .i64 i)] [] (is (.p (.int .i64 (val (rn i))))):=by
 by_cases hi:0≤i∧i<1114112
 ·rw[KR hi]
  have e1:((i.toNat:Nat):Int)=i:=by omega
  have:=K8 h (by omega) (i:=i.toNat) (by omega)
  rw[e1]at this
  exact this
 ·rw[uT hi,hz]
  obtain⟨idx,blocks,rfl,_⟩:=h
  refine zN [] mixed 6 [] Tryz.func165 rfl (by kernel_rfl) rfl (by simp) (by simp) ?_
  by_cases h0:i<0
  ·simp[go_sem,Tryz.f165,ZT,h0]
   exact zn (.p (.int .i64 0)) rfl (by simp[go_sem,zg,leA,leT]) ⟨rfl,rfl⟩
  ·have h1:(1114112:Int)≤i:=by omega
   simp[go_sem,Tryz.f165,ZT,h0,h1]
   exact zn (.p (.int .i64 0)) rfl (by simp[go_sem,zg,leA,leT]) ⟨rfl,rfl⟩
theorem Kw [Gi] {val:Nat→Flags} {e:PV}(h:jy 4 1114112 (fun j=>z8 (val j)) e)(hz:val 1114112=⟨false,false,false,false⟩)(i:Int):CR Tryz.prog 116 [] [.p e,.p (.int .i64 i)] [] (is (.p (.agg (z8 (val (rn i)))))):=by
 by_cases hi:0≤i∧i<1114112
 ·rw[KR hi]
  have e1:((i.toNat:Nat):Int)=i:=by omega
  have:=Jd h (by omega) (i:=i.toNat) (by omega)
  rw[e1]at this
  exact this
 ·rw[uT hi,hz]
  obtain⟨idx,blocks,rfl,_⟩:=h
  refine zN [] mixed 6 [] Tryz.func116 rfl (by kernel_rfl) rfl (by simp) (by simp) ?_
  by_cases h0:i<0
  ·simp[go_sem,Tryz.f116,ZT,h0]
   exact zn (.p (.agg [.bool false,.bool false,.bool false,.bool false])) rfl (by simp[go_sem,zg,leA,leT]) ⟨rfl,rfl⟩
  ·have h1:(1114112:Int)≤i:=by omega
   simp[go_sem,Tryz.f116,ZT,h0,h1]
   exact zn (.p (.agg [.bool false,.bool false,.bool false,.bool false])) rfl (by simp[go_sem,zg,leA,leT]) ⟨rfl,rfl⟩
def yR(t:qX)(i:Int):Int:=if 44032≤i∧i≤55203 then(if(i-44032)%28=0 then 12 else 13)else t.brk (rn i)
def Vg(t:qX)(i:Int):Int:=if t.cnj (rn i)≠0 then t.cnj (rn i)else if(yR t i=4∨yR t i=5)∧i≠8204 then 3 else 0
theorem Xk [Gi] {t:qX} {c b j f p:PV}(h:uv t c b j f p)(ck cx sk sx:List PV)(hz:W0 t) {i:Int}(hi: -2147483648≤i∧i<2147483648):
  CR Tryz.prog 211 [] [.p (Q0 c b j f p ck cx sk sx),.p (.int .i32 i)] [] (is (.p (.bool (t.flg (rn i)).p))):=by
 have w1:IntKind.i64.wrap i=i:=wrap64 (by omega) (by omega)
 refine zH mixed 5 [] Tryz.func211 rfl (by kernel_rfl) rfl (by simp) (by simp) ?_
 simp (maxSteps:=1000000) [go_sem,Tryz.f211,Q0,w1]
 refine⟨⟨rfl,by simp[Tryz.f116]⟩,zh [] (Kw h.f hz.f i) (by simp[go_sem]) ⟨by simp[go_sem],by simp[go_sem]⟩ (by simp[go_sem]) ?_⟩
 rintro _ rs ⟨rfl,rfl⟩
 generalize t.flg (rn i)=q
 simp (maxSteps:=1000000) [go_sem,z8]
 exact zn (.p (.bool q.p)) rfl (by simp[go_sem,zg,leA,leT]) ⟨rfl,rfl⟩
theorem Wg [Gi] {t:qX} {c b j f p:PV}(h:uv t c b j f p)(ck cx sk sx:List PV)(hz:W0 t) {i:Int}(hi: -2147483648≤i∧i<2147483648):
  CR Tryz.prog 209 [] [.p (Q0 c b j f p ck cx sk sx),.p (.int .i32 i)] [] (is (.p (.int .i64 (yR t i)))):=by
 have w1:IntKind.i64.wrap i=i:=wrap64 (by omega) (by omega)
 refine zH mixed 6 [] Tryz.func209 rfl (by kernel_rfl) rfl (by simp) (by simp) ?_
 have hB:44032≤i→i≤55203→(i-44032).tmod 28=(i-44032)%28:=fun h1 _=>Int.tmod_eq_emod_of_nonneg (by omega)
 have w2:44032≤i→IntKind.i32.wrap (i-44032)=i-44032:=fun _=>by simp[IntKind.wrap,IntKind.signed,IntKind.bits];omega
 by_cases h1:44032≤i∧i≤55203
 ·have a1:(44032:Int)≤i:=by omega
  have a2:i≤55203:=by omega
  have a3:=hB h1.1 h1.2
  have w3:=w2 h1.1
  generalize hm:(i-44032)%28=m at a3
  by_cases h2:m=0
  ·subst h2
   have e:yR t i=12:=by unfold yR;rw[if_pos h1,if_pos hm]
   rw[e]
   simp (maxSteps:=1000000) [go_sem,Tryz.f209,Q0,w3,a1,a2,a3]
   exact zn (.p (.int .i64 12)) rfl (by simp[go_sem,zg,leA,leT]) ⟨rfl,rfl⟩
  ·have e:yR t i=13:=by unfold yR;rw[if_pos h1,if_neg (by omega)]
   rw[e]
   simp (maxSteps:=1000000) [go_sem,Tryz.f209,Q0,w3,a1,a2,a3,h2]
   exact zn (.p (.int .i64 13)) rfl (by simp[go_sem,zg,leA,leT]) ⟨rfl,rfl⟩
 ·have e:yR t i=t.brk (rn i):=by unfold yR;rw[if_neg h1]
  rw[e]
  by_cases a1:(44032:Int)≤i
  ·have a2:¬(i≤55203):=by omega
   simp (maxSteps:=1000000) [go_sem,Tryz.f209,Q0,w1,a1,a2]
   refine⟨⟨rfl,by simp[Tryz.f165]⟩,zh [] (uH h.b hz.b i) (by simp[go_sem]) ⟨by simp[go_sem],by simp[go_sem]⟩ (by simp[go_sem]) ?_⟩
   rintro _ rs ⟨rfl,rfl⟩
   simp (maxSteps:=1000000) [go_sem]
   exact zn (.p (.int .i64 (t.brk (rn i)))) rfl (by simp[go_sem,zg,leA,leT]) ⟨rfl,rfl⟩
  ·simp (maxSteps:=1000000) [go_sem,Tryz.f209,Q0,w1,a1]
   refine⟨⟨rfl,by simp[Tryz.f165]⟩,zh [] (uH h.b hz.b i) (by simp[go_sem]) ⟨by simp[go_sem],by simp[go_sem]⟩ (by simp[go_sem]) ?_⟩
   rintro _ rs ⟨rfl,rfl⟩
   simp (maxSteps:=1000000) [go_sem]
   exact zn (.p (.int .i64 (t.brk (rn i)))) rfl (by simp[go_sem,zg,leA,leT]) ⟨rfl,rfl⟩
theorem zfY [Gi] {t:qX} {c b j f p:PV}(h:uv t c b j f p)(ck cx sk sx:List PV)(hz:W0 t) {i:Int}(hi: -2147483648≤i∧i<2147483648):
  CR Tryz.prog 212 [] [.p (Q0 c b j f p ck cx sk sx),.p (.int .i32 i)] [] (is (.p (.int .i64 (Vg t i)))):=by
 have w1:IntKind.i64.wrap i=i:=wrap64 (by omega) (by omega)
 refine zH mixed 7 [] Tryz.func212 rfl (by kernel_rfl) rfl (by simp) (by simp) ?_
 simp (maxSteps:=1000000) [go_sem,Tryz.f212,Q0,w1]
 refine⟨⟨rfl,by simp[Tryz.f165]⟩,zh [] (uH h.j hz.j i) (by simp[go_sem]) ⟨by simp[go_sem],by simp[go_sem]⟩ (by simp[go_sem]) ?_⟩
 rintro _ rs ⟨rfl,rfl⟩
 simp (maxSteps:=1000000) [go_sem]
 by_cases h1:t.cnj (rn i)=0
 ·simp (maxSteps:=1000000) [go_sem,h1]
  refine⟨⟨rfl,by simp[Tryz.f209]⟩,zh [] (Wg h ck cx sk sx hz hi) (by simp[go_sem]) ⟨by simp[go_sem],by simp[go_sem,Q0]⟩ (by simp[go_sem]) ?_⟩
  rintro _ rs ⟨rfl,rfl⟩
  have e:Vg t i=if(yR t i=4∨yR t i=5)∧i≠8204 then 3 else 0:=by unfold Vg;rw[if_neg (fun h=>h h1)]
  rw[e]
  generalize yR t i=v
  by_cases h2:(v=4∨v=5)∧i≠8204
  ·rw[if_pos h2]
   have h3:¬(i=8204):=by omega
   rcases h2.1 with rfl|rfl
   ·simp (maxSteps:=1000000) [go_sem,h3]
    exact zn (.p (.int .i64 3)) rfl (by simp[go_sem,zg,leA,leT]) ⟨rfl,rfl⟩
   ·simp (maxSteps:=1000000) [go_sem,h3]
    exact zn (.p (.int .i64 3)) rfl (by simp[go_sem,zg,leA,leT]) ⟨rfl,rfl⟩
  ·rw[if_neg h2]
   by_cases h4:v=4
   ·have h3:i=8204:=by omega
    simp (maxSteps:=1000000) [go_sem,h4,h3]
    exact zn (.p (.int .i64 0)) rfl (by simp[go_sem,zg,leA,leT]) ⟨rfl,rfl⟩
   ·by_cases h5:v=5
    ·have h3:i=8204:=by omega
     simp (maxSteps:=1000000) [go_sem,h5,h3]
     exact zn (.p (.int .i64 0)) rfl (by simp[go_sem,zg,leA,leT]) ⟨rfl,rfl⟩
    ·simp (maxSteps:=1000000) [go_sem,h4,h5]
     exact zn (.p (.int .i64 0)) rfl (by simp[go_sem,zg,leA,leT]) ⟨rfl,rfl⟩
 ·have e:Vg t i=t.cnj (rn i):=by unfold Vg;rw[if_pos h1]
  rw[e]
  simp (maxSteps:=1000000) [go_sem,h1]
  exact zn (.p (.int .i64 (t.cnj (rn i)))) rfl (by simp[go_sem,zg,leA,leT]) ⟨rfl,rfl⟩
end
end Go.Proofs.YtfjdbbpimklecaaGreatDoor
