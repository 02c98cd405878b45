/- A part of this seat's proofs, by an abstract machine. Conditions: each law's. -/
import Derived.Test.YtfjdbbpimklecaaGreatDoorT25
set_option maxHeartbeats 4000000
set_option maxRecDepth 100000
namespace Go.Proofs.YtfjdbbpimklecaaGreatDoor
section
open Go.AM
def chainB:List Span→Bool
 | []=>true
 | [s]=>decide (s.f≤s.t)
 |s::x::l=>decide (s.f≤s.t)&&decide (s.t<x.f)&&chainB (x::l)
theorem wU:∀l:List Span,chainB l=true→qZ l
 | [],_=>trivial
 | [s],h=>⟨by simpa[chainB]using h,by simp,trivial⟩
 |s::x::l,h=>by
  simp only[chainB,Bool.and_eq_true,decide_eq_true_eq]at h
  obtain⟨⟨h1,h2⟩,h3⟩:=h
  have ih:=wU (x::l) h3
  refine⟨h1,fun y hy=>?_,ih⟩
  rcases List.mem_cons.1 hy with rfl|hy
  ·exact h2
  ·have:=ih.2.1 y hy
   have:=ih.1
   omega
def Wj(l:List Row)(k:Int):Bool:=
 chainB (zL l k)&&(zL l k).all (fun s=>decide (-1000000000≤s.t)&&decide (s.t≤1000000000))&&decide ((zL l k).length<256)&&
 chainB (qv l k)&&(qv l k).all (fun s=>decide (0≤s.f)&&decide (s.t≤1114111))&&decide ((qv l k).length<256)
theorem jV {l:List Row} {k:Int}(h:Wj l k=true):ZB l k:=by
 simp only[Wj,Bool.and_eq_true,decide_eq_true_eq,List.all_eq_true]at h
 obtain⟨⟨⟨⟨⟨h1,h2⟩,h3⟩,h4⟩,h5⟩,h6⟩:=h
 exact⟨wU _ h1,h2,h3,wU _ h4,h5,h6⟩
def zkB(l:List Row):Bool:=(qv l 2).all fun s=>decide (0≤s.a)&&decide (s.a<1114112)&&decide (0≤s.b)&&decide (s.b<1114112)
theorem zq4:Wj za 1=true:=by decide+kernel
theorem zq2:Wj za 2=true:=by decide+kernel
theorem zq0:Wj za 3=true:=by decide+kernel
theorem zq6:Wj za 4=true:=by decide+kernel
theorem zqQ:Wj za 5=true:=by decide+kernel
theorem zrb:Wj za 6=true:=by decide+kernel
theorem zqD:Wj za 7=true:=by decide+kernel
theorem zqZ:Wj za 8=true:=by decide+kernel
theorem zqR:zkB za=true:=by decide+kernel
theorem zqp:za.length<2^31:=by decide+kernel
def T0:Zm:=qX za
def M0:List (jq×Int)×List Int:=made za
def xn(x:PV):Prop:=∃c b j f p,VL T0 c b j f p∧x=kd c b j f p (ckP M0.1) (cxP M0.1) (QX M0.2) (qC M0.2)
theorem zhl [Gi]:CR Tryz.prog 13 [] [.p (z6 za)] [] (fun x rs=>rs=[]∧∃e,x=.p e∧xn e):=by
 have hp:∀s∈qv za 2,0≤s.a∧s.a<1114112∧0≤s.b∧s.b<1114112:=by
  have:=zqR
  simp only[zkB,Bool.and_eq_true,decide_eq_true_eq,List.all_eq_true]at this
  exact fun s hs=>⟨(this s hs).1.1.1,(this s hs).1.1.2,(this s hs).1.2,(this s hs).2⟩
 intro w g vs h1 h2
 refine(zjP za zqp (jV zq4) (jV zq2) (jV zq0) (jV zq6) (jV zqQ) (jV zrb) (jV zqD) (jV zqZ) hp w g vs h1 h2).mono ?_
 rintro e w' ⟨v,x,rs',g',h3,⟨rfl,c,b,j,f,p,hT,rfl⟩,h4⟩
 exact⟨v,_,_,g',h3,⟨rfl,_,rfl,c,b,j,f,p,hT,rfl⟩,h4⟩
def rn(x:Int):Nat:=if 0≤x∧x<1114112 then x.toNat else 1114112
theorem XH {x:Int}(h:0≤x∧x<1114112):rn x=x.toNat:=if_pos h
theorem Um {x:Int}(h:¬(0≤x∧x<1114112)):rn x=1114112:=if_neg h
structure Kp(t:Zm):Prop where
 c:t.cls 1114112=0
 b:t.brk 1114112=0
 j:t.cnj 1114112=0
 f:t.flg 1114112=⟨false,false,false,false⟩
 p:t.par 1114112=⟨0,0⟩
theorem wM:Kp T0:=⟨by decide+kernel,by decide+kernel,by decide+kernel,by decide+kernel,by decide+kernel⟩
theorem Uk [Gi] {val:Nat→Int} {e:PV}(h:yb 1 1114112 (fun j=>[.int .i64 (val j)]) e)(hz:val 1114112=0)(i:Int):CR Tryz.prog 165 [] [.p e,.p (.int .i64 i)] [] (is (.p (.int .i64 (val (rn i))))):=by
 by_cases hi:0≤i∧i<1114112
 ·rw[XH hi]
  have e1:((i.toNat:Nat):Int)=i:=by omega
  have:=XU h (by omega) (i:=i.toNat) (by omega)
  rw[e1]at this
  exact this
 ·rw[Um hi,hz]
  obtain⟨idx,blocks,rfl,_⟩:=h
  refine zK [] mixed 6 [] Tryz.func165 rfl (by kernel_rfl) rfl (by simp) (by simp) ?_
  by_cases h0:i<0
  ·simp[go_sem,Tryz.f165,Qy,h0]
   exact zg (.p (.int .i64 0)) rfl (by simp[go_sem,zf,leA,leT]) ⟨rfl,rfl⟩
  ·have h1:(1114112:Int)≤i:=by omega
   simp[go_sem,Tryz.f165,Qy,h0,h1]
   exact zg (.p (.int .i64 0)) rfl (by simp[go_sem,zf,leA,leT]) ⟨rfl,rfl⟩
theorem X4 [Gi] {val:Nat→Flags} {e:PV}(h:yb 4 1114112 (fun j=>qB (val j)) e)(hz:val 1114112=⟨false,false,false,false⟩)(i:Int):CR Tryz.prog 116 [] [.p e,.p (.int .i64 i)] [] (is (.p (.agg (qB (val (rn i)))))):=by
 by_cases hi:0≤i∧i<1114112
 ·rw[XH hi]
  have e1:((i.toNat:Nat):Int)=i:=by omega
  have:=XY h (by omega) (i:=i.toNat) (by omega)
  rw[e1]at this
  exact this
 ·rw[Um hi,hz]
  obtain⟨idx,blocks,rfl,_⟩:=h
  refine zK [] mixed 6 [] Tryz.func116 rfl (by kernel_rfl) rfl (by simp) (by simp) ?_
  by_cases h0:i<0
  ·simp[go_sem,Tryz.f116,Qy,h0]
   exact zg (.p (.agg [.bool false,.bool false,.bool false,.bool false])) rfl (by simp[go_sem,zf,leA,leT]) ⟨rfl,rfl⟩
  ·have h1:(1114112:Int)≤i:=by omega
   simp[go_sem,Tryz.f116,Qy,h0,h1]
   exact zg (.p (.agg [.bool false,.bool false,.bool false,.bool false])) rfl (by simp[go_sem,zf,leA,leT]) ⟨rfl,rfl⟩
def wO(t:Zm)(i:Int):Int:=if 44032≤i∧i≤55203 then(if(i-44032)%28=0 then 12 else 13)else t.brk (rn i)
def KG(t:Zm)(i:Int):Int:=if t.cnj (rn i)≠0 then t.cnj (rn i)else if(wO t i=4∨wO t i=5)∧i≠8204 then 3 else 0
theorem zd0 [Gi] {t:Zm} {c b j f p:PV}(h:VL t c b j f p)(ck cx sk sx:List PV)(hz:Kp t) {i:Int}(hi: -2147483648≤i∧i<2147483648):
  CR Tryz.prog 211 [] [.p (kd c b j f p ck cx sk sx),.p (.int .i32 i)] [] (is (.p (.bool (t.flg (rn i)).p))):=by
 have w1:IntKind.i64.wrap i=i:=wrap64 (by omega) (by omega)
 refine zx mixed 5 [] Tryz.func211 rfl (by kernel_rfl) rfl (by simp) (by simp) ?_
 simp (maxSteps:=1000000) [go_sem,Tryz.f211,kd,w1]
 refine⟨⟨rfl,by simp[Tryz.f116]⟩,zd [] (X4 h.f hz.f i) (by simp[go_sem]) ⟨by simp[go_sem],by simp[go_sem]⟩ (by simp[go_sem]) ?_⟩
 rintro _ rs ⟨rfl,rfl⟩
 generalize t.flg (rn i)=q
 simp (maxSteps:=1000000) [go_sem,qB]
 exact zg (.p (.bool q.p)) rfl (by simp[go_sem,zf,leA,leT]) ⟨rfl,rfl⟩
theorem VZ [Gi] {t:Zm} {c b j f p:PV}(h:VL t c b j f p)(ck cx sk sx:List PV)(hz:Kp t) {i:Int}(hi: -2147483648≤i∧i<2147483648):
  CR Tryz.prog 209 [] [.p (kd c b j f p ck cx sk sx),.p (.int .i32 i)] [] (is (.p (.int .i64 (wO t i)))):=by
 have w1:IntKind.i64.wrap i=i:=wrap64 (by omega) (by omega)
 refine zx mixed 6 [] Tryz.func209 rfl (by kernel_rfl) rfl (by simp) (by simp) ?_
 have hB:44032≤i→i≤55203→(i-44032).tmod 28=(i-44032)%28:=fun h1 _=>Int.tmod_eq_emod_of_nonneg (by omega)
 have w2:44032≤i→IntKind.i32.wrap (i-44032)=i-44032:=fun _=>by simp[IntKind.wrap,IntKind.signed,IntKind.bits];omega
 by_cases h1:44032≤i∧i≤55203
 ·have a1:(44032:Int)≤i:=by omega
  have a2:i≤55203:=by omega
  have a3:=hB h1.1 h1.2
  have w3:=w2 h1.1
  generalize hm:(i-44032)%28=m at a3
  by_cases h2:m=0
  ·subst h2
   have e:wO t i=12:=by unfold wO;rw[if_pos h1,if_pos hm]
   rw[e]
   simp (maxSteps:=1000000) [go_sem,Tryz.f209,kd,w3,a1,a2,a3]
   exact zg (.p (.int .i64 12)) rfl (by simp[go_sem,zf,leA,leT]) ⟨rfl,rfl⟩
  ·have e:wO t i=13:=by unfold wO;rw[if_pos h1,if_neg (by omega)]
   rw[e]
   simp (maxSteps:=1000000) [go_sem,Tryz.f209,kd,w3,a1,a2,a3,h2]
   exact zg (.p (.int .i64 13)) rfl (by simp[go_sem,zf,leA,leT]) ⟨rfl,rfl⟩
 ·have e:wO t i=t.brk (rn i):=by unfold wO;rw[if_neg h1]
  rw[e]
  by_cases a1:(44032:Int)≤i
  ·have a2:¬(i≤55203):=by omega
   simp (maxSteps:=1000000) [go_sem,Tryz.f209,kd,w1,a1,a2]
   refine⟨⟨rfl,by simp[Tryz.f165]⟩,zd [] (Uk h.b hz.b i) (by simp[go_sem]) ⟨by simp[go_sem],by simp[go_sem]⟩ (by simp[go_sem]) ?_⟩
   rintro _ rs ⟨rfl,rfl⟩
   simp (maxSteps:=1000000) [go_sem]
   exact zg (.p (.int .i64 (t.brk (rn i)))) rfl (by simp[go_sem,zf,leA,leT]) ⟨rfl,rfl⟩
  ·simp (maxSteps:=1000000) [go_sem,Tryz.f209,kd,w1,a1]
   refine⟨⟨rfl,by simp[Tryz.f165]⟩,zd [] (Uk h.b hz.b i) (by simp[go_sem]) ⟨by simp[go_sem],by simp[go_sem]⟩ (by simp[go_sem]) ?_⟩
   rintro _ rs ⟨rfl,rfl⟩
   simp (maxSteps:=1000000) [go_sem]
   exact zg (.p (.int .i64 (t.brk (rn i)))) rfl (by simp[go_sem,zf,leA,leT]) ⟨rfl,rfl⟩
theorem zja [Gi] {t:Zm} {c b j f p:PV}(h:VL t c b j f p)(ck cx sk sx:List PV)(hz:Kp t) {i:Int}(hi: -2147483648≤i∧i<2147483648):
  CR Tryz.prog 212 [] [.p (kd c b j f p ck cx sk sx),.p (.int .i32 i)] [] (is (.p (.int .i64 (KG t i)))):=by
 have w1:IntKind.i64.wrap i=i:=wrap64 (by omega) (by omega)
 refine zx mixed 7 [] Tryz.func212 rfl (by kernel_rfl) rfl (by simp) (by simp) ?_
 simp (maxSteps:=1000000) [go_sem,Tryz.f212,kd,w1]
 refine⟨⟨rfl,by simp[Tryz.f165]⟩,zd [] (Uk h.j hz.j i) (by simp[go_sem]) ⟨by simp[go_sem],by simp[go_sem]⟩ (by simp[go_sem]) ?_⟩
 rintro _ rs ⟨rfl,rfl⟩
 simp (maxSteps:=1000000) [go_sem]
 by_cases h1:t.cnj (rn i)=0
 ·simp (maxSteps:=1000000) [go_sem,h1]
  refine⟨⟨rfl,by simp[Tryz.f209]⟩,zd [] (VZ h ck cx sk sx hz hi) (by simp[go_sem]) ⟨by simp[go_sem],by simp[go_sem,kd]⟩ (by simp[go_sem]) ?_⟩
  rintro _ rs ⟨rfl,rfl⟩
  have e:KG t i=if(wO t i=4∨wO t i=5)∧i≠8204 then 3 else 0:=by unfold KG;rw[if_neg (fun h=>h h1)]
  rw[e]
  generalize wO t i=v
  by_cases h2:(v=4∨v=5)∧i≠8204
  ·rw[if_pos h2]
   have h3:¬(i=8204):=by omega
   rcases h2.1 with rfl|rfl
   ·simp (maxSteps:=1000000) [go_sem,h3]
    exact zg (.p (.int .i64 3)) rfl (by simp[go_sem,zf,leA,leT]) ⟨rfl,rfl⟩
   ·simp (maxSteps:=1000000) [go_sem,h3]
    exact zg (.p (.int .i64 3)) rfl (by simp[go_sem,zf,leA,leT]) ⟨rfl,rfl⟩
  ·rw[if_neg h2]
   by_cases h4:v=4
   ·have h3:i=8204:=by omega
    simp (maxSteps:=1000000) [go_sem,h4,h3]
    exact zg (.p (.int .i64 0)) rfl (by simp[go_sem,zf,leA,leT]) ⟨rfl,rfl⟩
   ·by_cases h5:v=5
    ·have h3:i=8204:=by omega
     simp (maxSteps:=1000000) [go_sem,h5,h3]
     exact zg (.p (.int .i64 0)) rfl (by simp[go_sem,zf,leA,leT]) ⟨rfl,rfl⟩
    ·simp (maxSteps:=1000000) [go_sem,h4,h5]
     exact zg (.p (.int .i64 0)) rfl (by simp[go_sem,zf,leA,leT]) ⟨rfl,rfl⟩
 ·have e:KG t i=t.cnj (rn i):=by unfold KG;rw[if_pos h1]
  rw[e]
  simp (maxSteps:=1000000) [go_sem,h1]
  exact zg (.p (.int .i64 (t.cnj (rn i)))) rfl (by simp[go_sem,zf,leA,leT]) ⟨rfl,rfl⟩
end
end Go.Proofs.YtfjdbbpimklecaaGreatDoor
