/- A part of the proof of this seat's statements, by an abstract machine: what each operation does to values, and what the law's functions compute. Conditions: as each law says. -/
import Derived.Test.YthbmelihnabkaaaGreatT24
section
namespace Go.Proofs.YthbmelihnabkaaaGreat
open Go.AM
set_option maxHeartbeats 4000000
set_option maxRecDepth 100000
def chainB:List Span→Bool
 | []=>true
 | [s]=>decide (s.f≤s.t)
 |s::x::l=>decide (s.f≤s.t)&&decide (s.t<x.f)&&chainB (x::l)
theorem wx:∀l:List Span,chainB l=true→qS l
 | [],_=>trivial
 | [s],h=>⟨by simpa[chainB]using h,by simp,trivial⟩
 |s::x::l,h=>by
  simp only[chainB,Bool.and_eq_true,decide_eq_true_eq]at h
  obtain⟨⟨h1,h2⟩,h3⟩:=h
  have ih:=wx (x::l) h3
  refine⟨h1,fun y hy=>?_,ih⟩
  rcases List.mem_cons.1 hy with rfl|hy
  ·exact h2
  ·have:=ih.2.1 y hy
   have:=ih.1
   omega
def uD(l:List Row)(k:Int):Bool:=
 chainB (zK l k)&&(zK l k).all (fun s=>decide (-1000000000≤s.t)&&decide (s.t≤1000000000))&&decide ((zK l k).length<256)&&
 chainB (qg l k)&&(qg l k).all (fun s=>decide (0≤s.f)&&decide (s.t≤1114111))&&decide ((qg l k).length<256)
theorem ja {l:List Row} {k:Int}(h:uD l k=true):ZL l k:=by
 simp only[uD,Bool.and_eq_true,decide_eq_true_eq,List.all_eq_true]at h
 obtain⟨⟨⟨⟨⟨h1,h2⟩,h3⟩,h4⟩,h5⟩,h6⟩:=h
 exact⟨wx _ h1,h2,h3,wx _ h4,h5,h6⟩
def zfp(l:List Row):Bool:=(qg l 2).all fun s=>decide (0≤s.a)&&decide (s.a<1114112)&&decide (0≤s.b)&&decide (s.b<1114112)
theorem zoJ:uD za 1=true:=by decide+kernel
theorem zoM:uD za 2=true:=by decide+kernel
theorem zoi:uD za 3=true:=by decide+kernel
theorem zoU:uD za 4=true:=by decide+kernel
theorem zoI:uD za 5=true:=by decide+kernel
theorem zoT:uD za 6=true:=by decide+kernel
theorem zoQ:uD za 7=true:=by decide+kernel
theorem zot:uD za 8=true:=by decide+kernel
theorem zov:zfp za=true:=by decide+kernel
theorem zl5:za.length<2^31:=by decide+kernel
def T0:zQ:=qU za
def M0:List (qZ×Int)×List Int:=made za
def Zl(x:PV):Prop:=∃c b j f p,Q8 T0 c b j f p∧x=zF c b j f p (ckP M0.1) (cxP M0.1) (ZD M0.2) (qe M0.2)
theorem zg1 [Gi]:CR Tryz.prog 10 [] [.p (zI za)] [] (fun x rs=>rs=[]∧∃e,x=.p e∧Zl e):=by
 have hp:∀s∈qg za 2,0≤s.a∧s.a<1114112∧0≤s.b∧s.b<1114112:=by
  have:=zov
  simp only[zfp,Bool.and_eq_true,decide_eq_true_eq,List.all_eq_true]at this
  exact fun s hs=>⟨(this s hs).1.1.1,(this s hs).1.1.2,(this s hs).1.2,(this s hs).2⟩
 intro w g vs h1 h2
 refine(zit za zl5 (ja zoJ) (ja zoM) (ja zoi) (ja zoU) (ja zoI) (ja zoT) (ja zoQ) (ja zot) hp w g vs h1 h2).mono ?_
 rintro e w' ⟨v,x,rs',g',h3,⟨rfl,c,b,j,f,p,hT,rfl⟩,h4⟩
 exact⟨v,_,_,g',h3,⟨rfl,_,rfl,c,b,j,f,p,hT,rfl⟩,h4⟩
end Go.Proofs.YthbmelihnabkaaaGreat
end
section
namespace Go.Proofs.YthbmelihnabkaaaGreat
open Go.AM
set_option maxHeartbeats 4000000
set_option maxRecDepth 10000
def rn(x:Int):Nat:=if 0≤x∧x<1114112 then x.toNat else 1114112
theorem uH {x:Int}(h:0≤x∧x<1114112):rn x=x.toNat:=if_pos h
theorem xd {x:Int}(h:¬(0≤x∧x<1114112)):rn x=1114112:=if_neg h
structure Qd(t:zQ):Prop where
 c:t.cls 1114112=0
 b:t.brk 1114112=0
 j:t.cnj 1114112=0
 f:t.flg 1114112=⟨false,false,false,false⟩
 p:t.par 1114112=⟨0,0⟩
theorem Z7:Qd T0:=⟨by decide+kernel,by decide+kernel,by decide+kernel,by decide+kernel,by decide+kernel⟩
theorem uk [Gi] {val:Nat→Int} {e:PV}(h:ky 1 1114112 (fun j=>[.int .i64 (val j)]) e)(hz:val 1114112=0)(i:Int):CR Tryz.prog 152 [] [.p e,.p (.int .i64 i)] [] (is (.p (.int .i64 (val (rn i))))):=by
 by_cases hi:0≤i∧i<1114112
 ·rw[uH hi]
  have e1:((i.toNat:Nat):Int)=i:=by omega
  have:=XL h (by omega) (i:=i.toNat) (by omega)
  rw[e1]at this
  exact this
 ·rw[xd hi,hz]
  obtain⟨idx,blocks,rfl,_⟩:=h
  refine zP [] mixed 6 [] Tryz.func152 rfl (by kernel_rfl) rfl (by simp) (by simp) ?_
  by_cases h0:i<0
  ·simp[go_sem,Tryz.f152,Qu,h0]
   exact zg (.p (.int .i64 0)) rfl (by simp[go_sem,zd,leA,leT]) ⟨rfl,rfl⟩
  ·have h1:(1114112:Int)≤i:=by omega
   simp[go_sem,Tryz.f152,Qu,h0,h1]
   exact zg (.p (.int .i64 0)) rfl (by simp[go_sem,zd,leA,leT]) ⟨rfl,rfl⟩
theorem V7 [Gi] {val:Nat→Flags} {e:PV}(h:ky 4 1114112 (fun j=>qu (val j)) e)(hz:val 1114112=⟨false,false,false,false⟩)(i:Int):CR Tryz.prog 104 [] [.p e,.p (.int .i64 i)] [] (is (.p (.agg (qu (val (rn i)))))):=by
 by_cases hi:0≤i∧i<1114112
 ·rw[uH hi]
  have e1:((i.toNat:Nat):Int)=i:=by omega
  have:=Y4 h (by omega) (i:=i.toNat) (by omega)
  rw[e1]at this
  exact this
 ·rw[xd hi,hz]
  obtain⟨idx,blocks,rfl,_⟩:=h
  refine zP [] mixed 6 [] Tryz.func104 rfl (by kernel_rfl) rfl (by simp) (by simp) ?_
  by_cases h0:i<0
  ·simp[go_sem,Tryz.f104,Qu,h0]
   exact zg (.p (.agg [.bool false,.bool false,.bool false,.bool false])) rfl (by simp[go_sem,zd,leA,leT]) ⟨rfl,rfl⟩
  ·have h1:(1114112:Int)≤i:=by omega
   simp[go_sem,Tryz.f104,Qu,h0,h1]
   exact zg (.p (.agg [.bool false,.bool false,.bool false,.bool false])) rfl (by simp[go_sem,zd,leA,leT]) ⟨rfl,rfl⟩
theorem zhO [Gi] {val:Nat→qZ} {e:PV}(h:ky 2 1114112 (fun j=>qi (val j)) e)(hz:val 1114112=⟨0,0⟩)(i:Int):CR Tryz.prog 50 [] [.p e,.p (.int .i64 i)] [] (is (.p (.agg (qi (val (rn i)))))):=by
 by_cases hi:0≤i∧i<1114112
 ·rw[uH hi]
  have e1:((i.toNat:Nat):Int)=i:=by omega
  have:=UA h (by omega) (i:=i.toNat) (by omega)
  rw[e1]at this
  exact this
 ·rw[xd hi,hz]
  obtain⟨idx,blocks,rfl,_⟩:=h
  refine zP [] mixed 6 [] Tryz.func50 rfl (by kernel_rfl) rfl (by simp) (by simp) ?_
  by_cases h0:i<0
  ·simp[go_sem,Tryz.f50,Qu,h0]
   exact zg (.p (.agg [.int .i32 0,.int .i32 0])) rfl (by simp[go_sem,zd,leA,leT]) ⟨rfl,rfl⟩
  ·have h1:(1114112:Int)≤i:=by omega
   simp[go_sem,Tryz.f50,Qu,h0,h1]
   exact zg (.p (.agg [.int .i32 0,.int .i32 0])) rfl (by simp[go_sem,zd,leA,leT]) ⟨rfl,rfl⟩
def wL(t:zQ)(i:Int):Int:=if 44032≤i∧i≤55203 then(if(i-44032)%28=0 then 12 else 13)else t.brk (rn i)
def Ks(t:zQ)(i:Int):Int:=if t.cnj (rn i)≠0 then t.cnj (rn i)else if(wL t i=4∨wL t i=5)∧i≠8204 then 3 else 0
theorem ZS [Gi] {t:zQ} {c b j f p:PV}(h:Q8 t c b j f p)(ck cx sk sx:List PV)(hz:Qd t) {i:Int}(hi: -2147483648≤i∧i<2147483648):
  CR Tryz.prog 105 [] [.p (zF c b j f p ck cx sk sx),.p (.int .i32 i)] [] (is (.p (.int .i64 (t.cls (rn i))))):=by
 have w1:IntKind.i64.wrap i=i:=wrap64 (by omega) (by omega)
 refine zm mixed 5 [] Tryz.func105 rfl (by kernel_rfl) rfl (by simp) (by simp) ?_
 obtain⟨_,_,e,_⟩:=id h.c
 simp (maxSteps:=1000000) [go_sem,Tryz.f105,zF,w1]
 refine⟨⟨rfl,by simp[Tryz.f152]⟩,zc [] (uk h.c hz.c i) (by simp[go_sem]) ⟨by simp[go_sem],by simp[go_sem]⟩ (by simp[go_sem]) ?_⟩
 rintro _ rs ⟨rfl,rfl⟩
 simp (maxSteps:=1000000) [go_sem]
 exact zg (.p (.int .i64 (t.cls (rn i)))) rfl (by simp[go_sem,zd,leA,leT]) ⟨rfl,rfl⟩
theorem vi [Gi] {t:zQ} {c b j f p:PV}(h:Q8 t c b j f p)(ck cx sk sx:List PV)(hz:Qd t) {i:Int}(hi: -2147483648≤i∧i<2147483648):
  CR Tryz.prog 103 [] [.p (zF c b j f p ck cx sk sx),.p (.int .i32 i)] [] (is (WZ (t.par (rn i)))):=by
 have w1:IntKind.i64.wrap i=i:=wrap64 (by omega) (by omega)
 refine zP [4] mixed 8 [] Tryz.func103 rfl (by kernel_rfl) rfl (by simp) (by simp) ?_
 simp (maxSteps:=1000000) [go_sem,Tryz.f103,zF,w1]
 refine⟨⟨rfl,by simp[Tryz.f50]⟩,zc [] (zhO h.p hz.p i) (by simp[go_sem]) ⟨by simp[go_sem],by simp[go_sem]⟩ (by simp[go_sem]) ?_⟩
 rintro _ rs ⟨rfl,rfl⟩
 generalize t.par (rn i)=q
 simp (maxSteps:=1000000) [go_sem,qi]
 exact zg (.tup [.p (.int .i32 q.a),.p (.int .i32 q.b),.p (.bool (!decide (q.a=0) ||!decide (q.b=0)))]) rfl (by simp[go_sem,zd,leA,leT,leP]) ⟨rfl,rfl⟩
theorem zbW [Gi] {t:zQ} {c b j f p:PV}(h:Q8 t c b j f p)(ck cx sk sx:List PV)(hz:Qd t) {i:Int}(hi: -2147483648≤i∧i<2147483648):
  CR Tryz.prog 194 [] [.p (zF c b j f p ck cx sk sx),.p (.int .i32 i)] [] (is (.p (.bool (t.flg (rn i)).p))):=by
 have w1:IntKind.i64.wrap i=i:=wrap64 (by omega) (by omega)
 refine zm mixed 5 [] Tryz.func194 rfl (by kernel_rfl) rfl (by simp) (by simp) ?_
 simp (maxSteps:=1000000) [go_sem,Tryz.f194,zF,w1]
 refine⟨⟨rfl,by simp[Tryz.f104]⟩,zc [] (V7 h.f hz.f i) (by simp[go_sem]) ⟨by simp[go_sem],by simp[go_sem]⟩ (by simp[go_sem]) ?_⟩
 rintro _ rs ⟨rfl,rfl⟩
 generalize t.flg (rn i)=q
 simp (maxSteps:=1000000) [go_sem,qu]
 exact zg (.p (.bool q.p)) rfl (by simp[go_sem,zd,leA,leT]) ⟨rfl,rfl⟩
theorem zeP [Gi] {t:zQ} {c b j f p:PV}(h:Q8 t c b j f p)(ck cx sk sx:List PV)(hz:Qd t) {i:Int}(hi: -2147483648≤i∧i<2147483648):
  CR Tryz.prog 172 [] [.p (zF c b j f p ck cx sk sx),.p (.int .i32 i)] [] (is (.p (.bool (t.flg (rn i)).l))):=by
 have w1:IntKind.i64.wrap i=i:=wrap64 (by omega) (by omega)
 refine zm mixed 5 [] Tryz.func172 rfl (by kernel_rfl) rfl (by simp) (by simp) ?_
 simp (maxSteps:=1000000) [go_sem,Tryz.f172,zF,w1]
 refine⟨⟨rfl,by simp[Tryz.f104]⟩,zc [] (V7 h.f hz.f i) (by simp[go_sem]) ⟨by simp[go_sem],by simp[go_sem]⟩ (by simp[go_sem]) ?_⟩
 rintro _ rs ⟨rfl,rfl⟩
 generalize t.flg (rn i)=q
 simp (maxSteps:=1000000) [go_sem,qu]
 exact zg (.p (.bool q.l)) rfl (by simp[go_sem,zd,leA,leT]) ⟨rfl,rfl⟩
theorem UE [Gi] {t:zQ} {c b j f p:PV}(h:Q8 t c b j f p)(ck cx sk sx:List PV)(hz:Qd t) {i:Int}(hi: -2147483648≤i∧i<2147483648):
  CR Tryz.prog 193 [] [.p (zF c b j f p ck cx sk sx),.p (.int .i32 i)] [] (is (.p (.int .i64 (wL t i)))):=by
 have w1:IntKind.i64.wrap i=i:=wrap64 (by omega) (by omega)
 refine zm mixed 6 [] Tryz.func193 rfl (by kernel_rfl) rfl (by simp) (by simp) ?_
 have hB:44032≤i→i≤55203→(i-44032).tmod 28=(i-44032)%28:=fun h1 _=>Int.tmod_eq_emod_of_nonneg (by omega)
 have w2:44032≤i→IntKind.i32.wrap (i-44032)=i-44032:=fun _=>by simp[IntKind.wrap,IntKind.signed,IntKind.bits];omega
 by_cases h1:44032≤i∧i≤55203
 ·have a1:(44032:Int)≤i:=by omega
  have a2:i≤55203:=by omega
  have a3:=hB h1.1 h1.2
  have w3:=w2 h1.1
  generalize hm:(i-44032)%28=m at a3
  by_cases h2:m=0
  ·subst h2
   have e:wL t i=12:=by unfold wL;rw[if_pos h1,if_pos hm]
   rw[e]
   simp (maxSteps:=1000000) [go_sem,Tryz.f193,zF,w3,a1,a2,a3]
   exact zg (.p (.int .i64 12)) rfl (by simp[go_sem,zd,leA,leT]) ⟨rfl,rfl⟩
  ·have e:wL t i=13:=by unfold wL;rw[if_pos h1,if_neg (by omega)]
   rw[e]
   simp (maxSteps:=1000000) [go_sem,Tryz.f193,zF,w3,a1,a2,a3,h2]
   exact zg (.p (.int .i64 13)) rfl (by simp[go_sem,zd,leA,leT]) ⟨rfl,rfl⟩
 ·have e:wL t i=t.brk (rn i):=by unfold wL;rw[if_neg h1]
  rw[e]
  by_cases a1:(44032:Int)≤i
  ·have a2:¬(i≤55203):=by omega
   simp (maxSteps:=1000000) [go_sem,Tryz.f193,zF,w1,a1,a2]
   refine⟨⟨rfl,by simp[Tryz.f152]⟩,zc [] (uk h.b hz.b i) (by simp[go_sem]) ⟨by simp[go_sem],by simp[go_sem]⟩ (by simp[go_sem]) ?_⟩
   rintro _ rs ⟨rfl,rfl⟩
   simp (maxSteps:=1000000) [go_sem]
   exact zg (.p (.int .i64 (t.brk (rn i)))) rfl (by simp[go_sem,zd,leA,leT]) ⟨rfl,rfl⟩
  ·simp (maxSteps:=1000000) [go_sem,Tryz.f193,zF,w1,a1]
   refine⟨⟨rfl,by simp[Tryz.f152]⟩,zc [] (uk h.b hz.b i) (by simp[go_sem]) ⟨by simp[go_sem],by simp[go_sem]⟩ (by simp[go_sem]) ?_⟩
   rintro _ rs ⟨rfl,rfl⟩
   simp (maxSteps:=1000000) [go_sem]
   exact zg (.p (.int .i64 (t.brk (rn i)))) rfl (by simp[go_sem,zd,leA,leT]) ⟨rfl,rfl⟩
theorem zdK [Gi] {t:zQ} {c b j f p:PV}(h:Q8 t c b j f p)(ck cx sk sx:List PV)(hz:Qd t) {i:Int}(hi: -2147483648≤i∧i<2147483648):
  CR Tryz.prog 195 [] [.p (zF c b j f p ck cx sk sx),.p (.int .i32 i)] [] (is (.p (.int .i64 (Ks t i)))):=by
 have w1:IntKind.i64.wrap i=i:=wrap64 (by omega) (by omega)
 refine zm mixed 7 [] Tryz.func195 rfl (by kernel_rfl) rfl (by simp) (by simp) ?_
 simp (maxSteps:=1000000) [go_sem,Tryz.f195,zF,w1]
 refine⟨⟨rfl,by simp[Tryz.f152]⟩,zc [] (uk h.j hz.j i) (by simp[go_sem]) ⟨by simp[go_sem],by simp[go_sem]⟩ (by simp[go_sem]) ?_⟩
 rintro _ rs ⟨rfl,rfl⟩
 simp (maxSteps:=1000000) [go_sem]
 by_cases h1:t.cnj (rn i)=0
 ·simp (maxSteps:=1000000) [go_sem,h1]
  refine⟨⟨rfl,by simp[Tryz.f193]⟩,zc [] (UE h ck cx sk sx hz hi) (by simp[go_sem]) ⟨by simp[go_sem],by simp[go_sem,zF]⟩ (by simp[go_sem]) ?_⟩
  rintro _ rs ⟨rfl,rfl⟩
  have e:Ks t i=if(wL t i=4∨wL t i=5)∧i≠8204 then 3 else 0:=by unfold Ks;rw[if_neg (fun h=>h h1)]
  rw[e]
  generalize wL t i=v
  by_cases h2:(v=4∨v=5)∧i≠8204
  ·rw[if_pos h2]
   have h3:¬(i=8204):=by omega
   rcases h2.1 with rfl|rfl
   ·simp (maxSteps:=1000000) [go_sem,h3]
    exact zg (.p (.int .i64 3)) rfl (by simp[go_sem,zd,leA,leT]) ⟨rfl,rfl⟩
   ·simp (maxSteps:=1000000) [go_sem,h3]
    exact zg (.p (.int .i64 3)) rfl (by simp[go_sem,zd,leA,leT]) ⟨rfl,rfl⟩
  ·rw[if_neg h2]
   by_cases h4:v=4
   ·have h3:i=8204:=by omega
    simp (maxSteps:=1000000) [go_sem,h4,h3]
    exact zg (.p (.int .i64 0)) rfl (by simp[go_sem,zd,leA,leT]) ⟨rfl,rfl⟩
   ·by_cases h5:v=5
    ·have h3:i=8204:=by omega
     simp (maxSteps:=1000000) [go_sem,h5,h3]
     exact zg (.p (.int .i64 0)) rfl (by simp[go_sem,zd,leA,leT]) ⟨rfl,rfl⟩
    ·simp (maxSteps:=1000000) [go_sem,h4,h5]
     exact zg (.p (.int .i64 0)) rfl (by simp[go_sem,zd,leA,leT]) ⟨rfl,rfl⟩
 ·have e:Ks t i=t.cnj (rn i):=by unfold Ks;rw[if_pos h1]
  rw[e]
  simp (maxSteps:=1000000) [go_sem,h1]
  exact zg (.p (.int .i64 (t.cnj (rn i)))) rfl (by simp[go_sem,zd,leA,leT]) ⟨rfl,rfl⟩
end Go.Proofs.YthbmelihnabkaaaGreat
end
