/- A part of the proof of this seat's statements, by an abstract machine: what each operation does to values, and what the law's functions compute. Conditions: as each law says. -/
import Derived.Test.YthbmelihnabkaaaGreatW26
import Derived.Test.YthbmelihnabkaaaGreatW18
section
namespace Go.Proofs.YthbmelihnabkaaaGreat
open Go.AM
set_option maxHeartbeats 4000000
set_option maxRecDepth 100000
def chainB:List Span→Bool
 | []=>true
 | [s]=>decide (s.f≤s.t)
 |s::x::l=>decide (s.f≤s.t)&&decide (s.t<x.f)&&chainB (x::l)
theorem wU:∀l:List Span,chainB l=true→qZ l
 | [],_=>trivial
 | [s],h=>⟨by simpa[chainB]using h,by simp,trivial⟩
 |s::x::l,h=>by
  simp only[chainB,Bool.and_eq_true,decide_eq_true_eq]at h
  obtain⟨⟨h1,h2⟩,h3⟩:=h
  have ih:=wU (x::l) h3
  refine⟨h1,fun y hy=>?_,ih⟩
  rcases List.mem_cons.1 hy with rfl|hy
  ·exact h2
  ·have:=ih.2.1 y hy
   have:=ih.1
   omega
def uY(l:List Row)(k:Int):Bool:=
 chainB (zP l k)&&(zP l k).all (fun s=>decide (-1000000000≤s.t)&&decide (s.t≤1000000000))&&decide ((zP l k).length<256)&&
 chainB (qg l k)&&(qg l k).all (fun s=>decide (0≤s.f)&&decide (s.t≤1114111))&&decide ((qg l k).length<256)
theorem jy {l:List Row} {k:Int}(h:uY l k=true):ZQ l k:=by
 simp only[uY,Bool.and_eq_true,decide_eq_true_eq,List.all_eq_true]at h
 obtain⟨⟨⟨⟨⟨h1,h2⟩,h3⟩,h4⟩,h5⟩,h6⟩:=h
 exact⟨wU _ h1,h2,h3,wU _ h4,h5,h6⟩
def zfc(l:List Row):Bool:=(qg l 2).all fun s=>decide (0≤s.a)&&decide (s.a<1114112)&&decide (0≤s.b)&&decide (s.b<1114112)
theorem zpj:uY za 1=true:=by decide+kernel
theorem zo7:uY za 2=true:=by decide+kernel
theorem zox:uY za 3=true:=by decide+kernel
theorem zo9:uY za 4=true:=by decide+kernel
theorem zpd:uY za 5=true:=by decide+kernel
theorem zpf:uY za 6=true:=by decide+kernel
theorem zpk:uY za 7=true:=by decide+kernel
theorem zop:uY za 8=true:=by decide+kernel
theorem zob:zfc za=true:=by decide+kernel
theorem zmq:za.length<2^31:=by decide+kernel
def T0:zR:=qV za
def M0:List (Zd×Int)×List Int:=made za
def qB(x:PV):Prop:=∃c b j f p,jo T0 c b j f p∧x=zF c b j f p (ckP M0.1) (cxP M0.1) (ZD M0.2) (qd M0.2)
theorem zhT [Gi]:CR Tryz.prog 10 [] [.p (zJ za)] [] (fun x rs=>rs=[]∧∃e,x=.p e∧qB e):=by
 have hp:∀s∈qg za 2,0≤s.a∧s.a<1114112∧0≤s.b∧s.b<1114112:=by
  have:=zob
  simp only[zfc,Bool.and_eq_true,decide_eq_true_eq,List.all_eq_true]at this
  exact fun s hs=>⟨(this s hs).1.1.1,(this s hs).1.1.2,(this s hs).1.2,(this s hs).2⟩
 intro w g vs h1 h2
 refine(zkh za zmq (jy zpj) (jy zo7) (jy zox) (jy zo9) (jy zpd) (jy zpf) (jy zpk) (jy zop) hp w g vs h1 h2).mono ?_
 rintro e w' ⟨v,x,rs',g',h3,⟨rfl,c,b,j,f,p,hT,rfl⟩,h4⟩
 exact⟨v,_,_,g',h3,⟨rfl,_,rfl,c,b,j,f,p,hT,rfl⟩,h4⟩
end Go.Proofs.YthbmelihnabkaaaGreat
end
section
namespace Go.Proofs.YthbmelihnabkaaaGreat
open Go.AM
set_option maxHeartbeats 4000000
set_option maxRecDepth 10000
def rn(x:Int):Nat:=if 0≤x∧x<1114112 then x.toNat else 1114112
theorem uU {x:Int}(h:0≤x∧x<1114112):rn x=x.toNat:=if_pos h
theorem xz {x:Int}(h:¬(0≤x∧x<1114112)):rn x=1114112:=if_neg h
structure Qq(t:zR):Prop where
 c:t.cls 1114112=0
 b:t.brk 1114112=0
 j:t.cnj 1114112=0
 f:t.flg 1114112=⟨false,false,false,false⟩
 p:t.par 1114112=⟨0,0⟩
theorem Z0:Qq T0:=⟨by decide+kernel,by decide+kernel,by decide+kernel,by decide+kernel,by decide+kernel⟩
theorem uE [Gi] {val:Nat→Int} {e:PV}(h:kY 1 1114112 (fun j=>[.int .i64 (val j)]) e)(hz:val 1114112=0)(i:Int):CR Tryz.prog 152 [] [.p e,.p (.int .i64 i)] [] (is (.p (.int .i64 (val (rn i))))):=by
 by_cases hi:0≤i∧i<1114112
 ·rw[uU hi]
  have e1:((i.toNat:Nat):Int)=i:=by omega
  have:=XC h (by omega) (i:=i.toNat) (by omega)
  rw[e1]at this
  exact this
 ·rw[xz hi,hz]
  obtain⟨idx,blocks,rfl,_⟩:=h
  refine zS [] mixed 6 [] Tryz.func152 rfl (by kernel_rfl) rfl (by simp) (by simp) ?_
  by_cases h0:i<0
  ·simp[go_sem,Tryz.f152,QL,h0]
   exact zg (.p (.int .i64 0)) rfl (by simp[go_sem,zd,leA,leT]) ⟨rfl,rfl⟩
  ·have h1:(1114112:Int)≤i:=by omega
   simp[go_sem,Tryz.f152,QL,h0,h1]
   exact zg (.p (.int .i64 0)) rfl (by simp[go_sem,zd,leA,leT]) ⟨rfl,rfl⟩
theorem VU [Gi] {val:Nat→Flags} {e:PV}(h:kY 4 1114112 (fun j=>qv (val j)) e)(hz:val 1114112=⟨false,false,false,false⟩)(i:Int):CR Tryz.prog 104 [] [.p e,.p (.int .i64 i)] [] (is (.p (.agg (qv (val (rn i)))))):=by
 by_cases hi:0≤i∧i<1114112
 ·rw[uU hi]
  have e1:((i.toNat:Nat):Int)=i:=by omega
  have:=X6 h (by omega) (i:=i.toNat) (by omega)
  rw[e1]at this
  exact this
 ·rw[xz hi,hz]
  obtain⟨idx,blocks,rfl,_⟩:=h
  refine zS [] mixed 6 [] Tryz.func104 rfl (by kernel_rfl) rfl (by simp) (by simp) ?_
  by_cases h0:i<0
  ·simp[go_sem,Tryz.f104,QL,h0]
   exact zg (.p (.agg [.bool false,.bool false,.bool false,.bool false])) rfl (by simp[go_sem,zd,leA,leT]) ⟨rfl,rfl⟩
  ·have h1:(1114112:Int)≤i:=by omega
   simp[go_sem,Tryz.f104,QL,h0,h1]
   exact zg (.p (.agg [.bool false,.bool false,.bool false,.bool false])) rfl (by simp[go_sem,zd,leA,leT]) ⟨rfl,rfl⟩
theorem zhI [Gi] {val:Nat→Zd} {e:PV}(h:kY 2 1114112 (fun j=>qj (val j)) e)(hz:val 1114112=⟨0,0⟩)(i:Int):CR Tryz.prog 50 [] [.p e,.p (.int .i64 i)] [] (is (.p (.agg (qj (val (rn i)))))):=by
 by_cases hi:0≤i∧i<1114112
 ·rw[uU hi]
  have e1:((i.toNat:Nat):Int)=i:=by omega
  have:=UH h (by omega) (i:=i.toNat) (by omega)
  rw[e1]at this
  exact this
 ·rw[xz hi,hz]
  obtain⟨idx,blocks,rfl,_⟩:=h
  refine zS [] mixed 6 [] Tryz.func50 rfl (by kernel_rfl) rfl (by simp) (by simp) ?_
  by_cases h0:i<0
  ·simp[go_sem,Tryz.f50,QL,h0]
   exact zg (.p (.agg [.int .i32 0,.int .i32 0])) rfl (by simp[go_sem,zd,leA,leT]) ⟨rfl,rfl⟩
  ·have h1:(1114112:Int)≤i:=by omega
   simp[go_sem,Tryz.f50,QL,h0,h1]
   exact zg (.p (.agg [.int .i32 0,.int .i32 0])) rfl (by simp[go_sem,zd,leA,leT]) ⟨rfl,rfl⟩
def wx(t:zR)(i:Int):Int:=if 44032≤i∧i≤55203 then(if(i-44032)%28=0 then 12 else 13)else t.brk (rn i)
def KI(t:zR)(i:Int):Int:=if t.cnj (rn i)≠0 then t.cnj (rn i)else if(wx t i=4∨wx t i=5)∧i≠8204 then 3 else 0
theorem Z4 [Gi] {t:zR} {c b j f p:PV}(h:jo t c b j f p)(ck cx sk sx:List PV)(hz:Qq t) {i:Int}(hi: -2147483648≤i∧i<2147483648):
  CR Tryz.prog 105 [] [.p (zF c b j f p ck cx sk sx),.p (.int .i32 i)] [] (is (.p (.int .i64 (t.cls (rn i))))):=by
 have w1:IntKind.i64.wrap i=i:=wrap64 (by omega) (by omega)
 refine zn mixed 5 [] Tryz.func105 rfl (by kernel_rfl) rfl (by simp) (by simp) ?_
 obtain⟨_,_,e,_⟩:=id h.c
 simp (maxSteps:=1000000) [go_sem,Tryz.f105,zF,w1]
 refine⟨⟨rfl,by simp[Tryz.f152]⟩,zc [] (uE h.c hz.c i) (by simp[go_sem]) ⟨by simp[go_sem],by simp[go_sem]⟩ (by simp[go_sem]) ?_⟩
 rintro _ rs ⟨rfl,rfl⟩
 simp (maxSteps:=1000000) [go_sem]
 exact zg (.p (.int .i64 (t.cls (rn i)))) rfl (by simp[go_sem,zd,leA,leT]) ⟨rfl,rfl⟩
theorem vI [Gi] {t:zR} {c b j f p:PV}(h:jo t c b j f p)(ck cx sk sx:List PV)(hz:Qq t) {i:Int}(hi: -2147483648≤i∧i<2147483648):
  CR Tryz.prog 103 [] [.p (zF c b j f p ck cx sk sx),.p (.int .i32 i)] [] (is (Va (t.par (rn i)))):=by
 have w1:IntKind.i64.wrap i=i:=wrap64 (by omega) (by omega)
 refine zS [4] mixed 8 [] Tryz.func103 rfl (by kernel_rfl) rfl (by simp) (by simp) ?_
 simp (maxSteps:=1000000) [go_sem,Tryz.f103,zF,w1]
 refine⟨⟨rfl,by simp[Tryz.f50]⟩,zc [] (zhI h.p hz.p i) (by simp[go_sem]) ⟨by simp[go_sem],by simp[go_sem]⟩ (by simp[go_sem]) ?_⟩
 rintro _ rs ⟨rfl,rfl⟩
 generalize t.par (rn i)=q
 simp (maxSteps:=1000000) [go_sem,qj]
 exact zg (.tup [.p (.int .i32 q.a),.p (.int .i32 q.b),.p (.bool (!decide (q.a=0) ||!decide (q.b=0)))]) rfl (by simp[go_sem,zd,leA,leT,leP]) ⟨rfl,rfl⟩
theorem zch [Gi] {t:zR} {c b j f p:PV}(h:jo t c b j f p)(ck cx sk sx:List PV)(hz:Qq t) {i:Int}(hi: -2147483648≤i∧i<2147483648):
  CR Tryz.prog 194 [] [.p (zF c b j f p ck cx sk sx),.p (.int .i32 i)] [] (is (.p (.bool (t.flg (rn i)).p))):=by
 have w1:IntKind.i64.wrap i=i:=wrap64 (by omega) (by omega)
 refine zn mixed 5 [] Tryz.func194 rfl (by kernel_rfl) rfl (by simp) (by simp) ?_
 simp (maxSteps:=1000000) [go_sem,Tryz.f194,zF,w1]
 refine⟨⟨rfl,by simp[Tryz.f104]⟩,zc [] (VU h.f hz.f i) (by simp[go_sem]) ⟨by simp[go_sem],by simp[go_sem]⟩ (by simp[go_sem]) ?_⟩
 rintro _ rs ⟨rfl,rfl⟩
 generalize t.flg (rn i)=q
 simp (maxSteps:=1000000) [go_sem,qv]
 exact zg (.p (.bool q.p)) rfl (by simp[go_sem,zd,leA,leT]) ⟨rfl,rfl⟩
theorem zep [Gi] {t:zR} {c b j f p:PV}(h:jo t c b j f p)(ck cx sk sx:List PV)(hz:Qq t) {i:Int}(hi: -2147483648≤i∧i<2147483648):
  CR Tryz.prog 172 [] [.p (zF c b j f p ck cx sk sx),.p (.int .i32 i)] [] (is (.p (.bool (t.flg (rn i)).l))):=by
 have w1:IntKind.i64.wrap i=i:=wrap64 (by omega) (by omega)
 refine zn mixed 5 [] Tryz.func172 rfl (by kernel_rfl) rfl (by simp) (by simp) ?_
 simp (maxSteps:=1000000) [go_sem,Tryz.f172,zF,w1]
 refine⟨⟨rfl,by simp[Tryz.f104]⟩,zc [] (VU h.f hz.f i) (by simp[go_sem]) ⟨by simp[go_sem],by simp[go_sem]⟩ (by simp[go_sem]) ?_⟩
 rintro _ rs ⟨rfl,rfl⟩
 generalize t.flg (rn i)=q
 simp (maxSteps:=1000000) [go_sem,qv]
 exact zg (.p (.bool q.l)) rfl (by simp[go_sem,zd,leA,leT]) ⟨rfl,rfl⟩
theorem VO [Gi] {t:zR} {c b j f p:PV}(h:jo t c b j f p)(ck cx sk sx:List PV)(hz:Qq t) {i:Int}(hi: -2147483648≤i∧i<2147483648):
  CR Tryz.prog 193 [] [.p (zF c b j f p ck cx sk sx),.p (.int .i32 i)] [] (is (.p (.int .i64 (wx t i)))):=by
 have w1:IntKind.i64.wrap i=i:=wrap64 (by omega) (by omega)
 refine zn mixed 6 [] Tryz.func193 rfl (by kernel_rfl) rfl (by simp) (by simp) ?_
 have hB:44032≤i→i≤55203→(i-44032).tmod 28=(i-44032)%28:=fun h1 _=>Int.tmod_eq_emod_of_nonneg (by omega)
 have w2:44032≤i→IntKind.i32.wrap (i-44032)=i-44032:=fun _=>by simp[IntKind.wrap,IntKind.signed,IntKind.bits];omega
 by_cases h1:44032≤i∧i≤55203
 ·have a1:(44032:Int)≤i:=by omega
  have a2:i≤55203:=by omega
  have a3:=hB h1.1 h1.2
  have w3:=w2 h1.1
  generalize hm:(i-44032)%28=m at a3
  by_cases h2:m=0
  ·subst h2
   have e:wx t i=12:=by unfold wx;rw[if_pos h1,if_pos hm]
   rw[e]
   simp (maxSteps:=1000000) [go_sem,Tryz.f193,zF,w3,a1,a2,a3]
   exact zg (.p (.int .i64 12)) rfl (by simp[go_sem,zd,leA,leT]) ⟨rfl,rfl⟩
  ·have e:wx t i=13:=by unfold wx;rw[if_pos h1,if_neg (by omega)]
   rw[e]
   simp (maxSteps:=1000000) [go_sem,Tryz.f193,zF,w3,a1,a2,a3,h2]
   exact zg (.p (.int .i64 13)) rfl (by simp[go_sem,zd,leA,leT]) ⟨rfl,rfl⟩
 ·have e:wx t i=t.brk (rn i):=by unfold wx;rw[if_neg h1]
  rw[e]
  by_cases a1:(44032:Int)≤i
  ·have a2:¬(i≤55203):=by omega
   simp (maxSteps:=1000000) [go_sem,Tryz.f193,zF,w1,a1,a2]
   refine⟨⟨rfl,by simp[Tryz.f152]⟩,zc [] (uE h.b hz.b i) (by simp[go_sem]) ⟨by simp[go_sem],by simp[go_sem]⟩ (by simp[go_sem]) ?_⟩
   rintro _ rs ⟨rfl,rfl⟩
   simp (maxSteps:=1000000) [go_sem]
   exact zg (.p (.int .i64 (t.brk (rn i)))) rfl (by simp[go_sem,zd,leA,leT]) ⟨rfl,rfl⟩
  ·simp (maxSteps:=1000000) [go_sem,Tryz.f193,zF,w1,a1]
   refine⟨⟨rfl,by simp[Tryz.f152]⟩,zc [] (uE h.b hz.b i) (by simp[go_sem]) ⟨by simp[go_sem],by simp[go_sem]⟩ (by simp[go_sem]) ?_⟩
   rintro _ rs ⟨rfl,rfl⟩
   simp (maxSteps:=1000000) [go_sem]
   exact zg (.p (.int .i64 (t.brk (rn i)))) rfl (by simp[go_sem,zd,leA,leT]) ⟨rfl,rfl⟩
theorem zdr [Gi] {t:zR} {c b j f p:PV}(h:jo t c b j f p)(ck cx sk sx:List PV)(hz:Qq t) {i:Int}(hi: -2147483648≤i∧i<2147483648):
  CR Tryz.prog 195 [] [.p (zF c b j f p ck cx sk sx),.p (.int .i32 i)] [] (is (.p (.int .i64 (KI t i)))):=by
 have w1:IntKind.i64.wrap i=i:=wrap64 (by omega) (by omega)
 refine zn mixed 7 [] Tryz.func195 rfl (by kernel_rfl) rfl (by simp) (by simp) ?_
 simp (maxSteps:=1000000) [go_sem,Tryz.f195,zF,w1]
 refine⟨⟨rfl,by simp[Tryz.f152]⟩,zc [] (uE h.j hz.j i) (by simp[go_sem]) ⟨by simp[go_sem],by simp[go_sem]⟩ (by simp[go_sem]) ?_⟩
 rintro _ rs ⟨rfl,rfl⟩
 simp (maxSteps:=1000000) [go_sem]
 by_cases h1:t.cnj (rn i)=0
 ·simp (maxSteps:=1000000) [go_sem,h1]
  refine⟨⟨rfl,by simp[Tryz.f193]⟩,zc [] (VO h ck cx sk sx hz hi) (by simp[go_sem]) ⟨by simp[go_sem],by simp[go_sem,zF]⟩ (by simp[go_sem]) ?_⟩
  rintro _ rs ⟨rfl,rfl⟩
  have e:KI t i=if(wx t i=4∨wx t i=5)∧i≠8204 then 3 else 0:=by unfold KI;rw[if_neg (fun h=>h h1)]
  rw[e]
  generalize wx t i=v
  by_cases h2:(v=4∨v=5)∧i≠8204
  ·rw[if_pos h2]
   have h3:¬(i=8204):=by omega
   rcases h2.1 with rfl|rfl
   ·simp (maxSteps:=1000000) [go_sem,h3]
    exact zg (.p (.int .i64 3)) rfl (by simp[go_sem,zd,leA,leT]) ⟨rfl,rfl⟩
   ·simp (maxSteps:=1000000) [go_sem,h3]
    exact zg (.p (.int .i64 3)) rfl (by simp[go_sem,zd,leA,leT]) ⟨rfl,rfl⟩
  ·rw[if_neg h2]
   by_cases h4:v=4
   ·have h3:i=8204:=by omega
    simp (maxSteps:=1000000) [go_sem,h4,h3]
    exact zg (.p (.int .i64 0)) rfl (by simp[go_sem,zd,leA,leT]) ⟨rfl,rfl⟩
   ·by_cases h5:v=5
    ·have h3:i=8204:=by omega
     simp (maxSteps:=1000000) [go_sem,h5,h3]
     exact zg (.p (.int .i64 0)) rfl (by simp[go_sem,zd,leA,leT]) ⟨rfl,rfl⟩
    ·simp (maxSteps:=1000000) [go_sem,h4,h5]
     exact zg (.p (.int .i64 0)) rfl (by simp[go_sem,zd,leA,leT]) ⟨rfl,rfl⟩
 ·have e:KI t i=t.cnj (rn i):=by unfold KI;rw[if_pos h1]
  rw[e]
  simp (maxSteps:=1000000) [go_sem,h1]
  exact zg (.p (.int .i64 (t.cnj (rn i)))) rfl (by simp[go_sem,zd,leA,leT]) ⟨rfl,rfl⟩
end Go.Proofs.YthbmelihnabkaaaGreat
end
section
namespace Go.Proofs.YthbmelihnabkaaaGreat
open Go.AM
set_option maxHeartbeats 4000000
set_option maxRecDepth 10000
theorem Ul [Gi] {P:Program} {D:List Nat} {c y:Code} {Q:Exit→St→Prop} {S:St} {ι:Type}(inv:ι→Prop)(V:ι→List (Nat×AV))(R:ι→List (Tok×List AV))(h:wpA P D c (JV S inv V R Q) S)
  (hr:∀i ts,inv i→wpA P D y Q (S.zdG (V i) (R i) ts)):wpA P D c (zeK P D y Q) S:=
 jx c (fun e S' h=>by
  cases e with
  |normal=>obtain⟨i,ts,hi,rfl⟩:=h;exact hr i ts hi
  |_=>exact h) h
theorem ze1 [Gi] {P:Program} {ops:Array Oper} {rest:List Oper} {K:St→Prop} {S:St} {ι:Type}(inv:ι→Prop)(V:ι→List (Nat×AV))(R:ι→List (Tok×List AV))(h:Qb P ops rest S (fun S'=>∃i ts,inv i∧S'=S.zdG (V i) (R i) ts))
  (hk:∀i ts,inv i→K (S.zdG (V i) (R i) ts)):zm6 P ops rest K S:=
 um (fun S' hx=>by obtain⟨i,ts,hi,e⟩:=hx;rw[e];exact hk i ts hi) h
def zO(a b:Int):Bool:=
 if a=1 then decide (b=2)
 else if a=2∨a=3 then false
 else if b=1∨b=2∨b=3 then false
 else if b=4∨b=5∨b=8 then true
 else if a=7 then true
 else if a=9 then decide (b=9) || decide (b=10) || decide (b=12) || decide (b=13)
 else if a=12∨a=10 then decide (b=10) || decide (b=11)
 else if a=13∨a=11 then decide (b=11)
 else false
theorem zhw [Gi](a b:Int):CR Tryz.prog 196 [] [.p (.int .i64 a),.p (.int .i64 b)] [] (is (.p (.bool (zO a b)))):=by
 refine zn mixed 55 [] Tryz.func196 rfl (by kernel_rfl) rfl (by simp) (by simp) ?_
 by_cases a1:a=1
 ·simp (maxSteps:=1000000) [go_sem,Tryz.f196,a1]
  exact zg (.p (.bool (zO a b))) rfl (by simp[go_sem,zd,leA,leT,zO,a1]) ⟨rfl,by first|rfl|simp[a1]⟩
 by_cases a2:a=2
 ·simp (maxSteps:=1000000) [go_sem,Tryz.f196,a2]
  exact zg (.p (.bool (zO a b))) rfl (by simp[go_sem,zd,leA,leT,zO,a2]) ⟨rfl,by first|rfl|simp[a2]⟩
 by_cases a3:a=3
 ·simp (maxSteps:=1000000) [go_sem,Tryz.f196,a3]
  exact zg (.p (.bool (zO a b))) rfl (by simp[go_sem,zd,leA,leT,zO,a3]) ⟨rfl,by first|rfl|simp[a3]⟩
 by_cases b1:b=1
 ·simp (maxSteps:=1000000) [go_sem,Tryz.f196,a1,a2,a3,b1]
  exact zg (.p (.bool (zO a b))) rfl (by simp[go_sem,zd,leA,leT,zO,a1,a2,a3,b1]) ⟨rfl,by first|rfl|simp[b1]⟩
 by_cases b2:b=2
 ·simp (maxSteps:=1000000) [go_sem,Tryz.f196,a1,a2,a3,b2]
  exact zg (.p (.bool (zO a b))) rfl (by simp[go_sem,zd,leA,leT,zO,a1,a2,a3,b2]) ⟨rfl,by first|rfl|simp[b2]⟩
 by_cases b3:b=3
 ·simp (maxSteps:=1000000) [go_sem,Tryz.f196,a1,a2,a3,b3]
  exact zg (.p (.bool (zO a b))) rfl (by simp[go_sem,zd,leA,leT,zO,a1,a2,a3,b3]) ⟨rfl,by first|rfl|simp[b3]⟩
 by_cases b4:b=4
 ·simp (maxSteps:=1000000) [go_sem,Tryz.f196,a1,a2,a3,b4]
  exact zg (.p (.bool (zO a b))) rfl (by simp[go_sem,zd,leA,leT,zO,a1,a2,a3,b4]) ⟨rfl,by first|rfl|simp[b4]⟩
 by_cases b5:b=5
 ·simp (maxSteps:=1000000) [go_sem,Tryz.f196,a1,a2,a3,b5]
  exact zg (.p (.bool (zO a b))) rfl (by simp[go_sem,zd,leA,leT,zO,a1,a2,a3,b5]) ⟨rfl,by first|rfl|simp[b5]⟩
 by_cases b8:b=8
 ·simp (maxSteps:=1000000) [go_sem,Tryz.f196,a1,a2,a3,b8]
  exact zg (.p (.bool (zO a b))) rfl (by simp[go_sem,zd,leA,leT,zO,a1,a2,a3,b8]) ⟨rfl,by first|rfl|simp[b8]⟩
 by_cases a7:a=7
 ·simp (maxSteps:=1000000) [go_sem,Tryz.f196,b1,b2,b3,b4,b5,b8,a7]
  exact zg (.p (.bool (zO a b))) rfl (by simp[go_sem,zd,leA,leT,zO,b1,b2,b3,b4,b5,b8,a7]) ⟨rfl,by first|rfl|simp[a7]⟩
 by_cases a9:a=9
 ·by_cases b9:b=9
  ·simp (maxSteps:=1000000) [go_sem,Tryz.f196,a9,b9]
   exact zg (.p (.bool (zO a b))) rfl (by simp[go_sem,zd,leA,leT,zO,a9,b9]) ⟨rfl,by first|rfl|simp[a9,b9]⟩
  by_cases b10:b=10
  ·simp (maxSteps:=1000000) [go_sem,Tryz.f196,a9,b10]
   exact zg (.p (.bool (zO a b))) rfl (by simp[go_sem,zd,leA,leT,zO,a9,b10]) ⟨rfl,by first|rfl|simp[a9,b10]⟩
  by_cases b12:b=12
  ·simp (maxSteps:=1000000) [go_sem,Tryz.f196,a9,b12]
   exact zg (.p (.bool (zO a b))) rfl (by simp[go_sem,zd,leA,leT,zO,a9,b12]) ⟨rfl,by first|rfl|simp[a9,b12]⟩
  by_cases b13:b=13
  ·simp (maxSteps:=1000000) [go_sem,Tryz.f196,a9,b13]
   exact zg (.p (.bool (zO a b))) rfl (by simp[go_sem,zd,leA,leT,zO,a9,b13]) ⟨rfl,by first|rfl|simp[a9,b13]⟩
  simp (maxSteps:=1000000) [go_sem,Tryz.f196,b1,b2,b3,b4,b5,b8,a9,b9,b10,b12,b13]
  exact zg (.p (.bool (zO a b))) rfl (by simp[go_sem,zd,leA,leT,zO,b1,b2,b3,b4,b5,b8,a9,b9,b10,b12,b13]) ⟨rfl,by first|rfl|simp[a9]⟩
 by_cases a12:a=12
 ·by_cases b10:b=10
  ·simp (maxSteps:=1000000) [go_sem,Tryz.f196,a12,b10]
   exact zg (.p (.bool (zO a b))) rfl (by simp[go_sem,zd,leA,leT,zO,a12,b10]) ⟨rfl,by first|rfl|simp[a12,b10]⟩
  by_cases b11:b=11
  ·simp (maxSteps:=1000000) [go_sem,Tryz.f196,a12,b11]
   exact zg (.p (.bool (zO a b))) rfl (by simp[go_sem,zd,leA,leT,zO,a12,b11]) ⟨rfl,by first|rfl|simp[a12,b11]⟩
  simp (maxSteps:=1000000) [go_sem,Tryz.f196,b1,b2,b3,b4,b5,b8,a12,b10,b11]
  exact zg (.p (.bool (zO a b))) rfl (by simp[go_sem,zd,leA,leT,zO,b1,b2,b3,b4,b5,b8,a12,b10,b11]) ⟨rfl,by first|rfl|simp[a12]⟩
 by_cases a10:a=10
 ·by_cases b10:b=10
  ·simp (maxSteps:=1000000) [go_sem,Tryz.f196,a10,b10]
   exact zg (.p (.bool (zO a b))) rfl (by simp[go_sem,zd,leA,leT,zO,a10,b10]) ⟨rfl,by first|rfl|simp[a10,b10]⟩
  by_cases b11:b=11
  ·simp (maxSteps:=1000000) [go_sem,Tryz.f196,a10,b11]
   exact zg (.p (.bool (zO a b))) rfl (by simp[go_sem,zd,leA,leT,zO,a10,b11]) ⟨rfl,by first|rfl|simp[a10,b11]⟩
  simp (maxSteps:=1000000) [go_sem,Tryz.f196,b1,b2,b3,b4,b5,b8,a10,b10,b11]
  exact zg (.p (.bool (zO a b))) rfl (by simp[go_sem,zd,leA,leT,zO,b1,b2,b3,b4,b5,b8,a10,b10,b11]) ⟨rfl,by first|rfl|simp[a10]⟩
 by_cases a13:a=13
 ·simp (maxSteps:=1000000) [go_sem,Tryz.f196,b1,b2,b3,b4,b5,b8,a13]
  exact zg (.p (.bool (zO a b))) rfl (by simp[go_sem,zd,leA,leT,zO,b1,b2,b3,b4,b5,b8,a13]) ⟨rfl,by first|rfl|simp[a13]⟩
 by_cases a11:a=11
 ·simp (maxSteps:=1000000) [go_sem,Tryz.f196,b1,b2,b3,b4,b5,b8,a11]
  exact zg (.p (.bool (zO a b))) rfl (by simp[go_sem,zd,leA,leT,zO,b1,b2,b3,b4,b5,b8,a11]) ⟨rfl,by first|rfl|simp[a11]⟩
 simp (maxSteps:=1000000) [go_sem,Tryz.f196,a1,a2,a3,b1,b2,b3,b4,b5,b8,a7,a9,a12,a10,a13,a11]
 exact zg (.p (.bool (zO a b))) rfl (by simp[go_sem,zd,leA,leT,zO,a1,a2,a3,b1,b2,b3,b4,b5,b8,a7,a9,a12,a10,a13,a11]) ⟨rfl,by first|rfl|simp[a1,a2,a3,b1,b2,b3,b4,b5,b8,a7,a9,a12,a10,a13,a11]⟩
structure xe where
 some:Bool
 last:Int
 pict:Int
 conj:Int
 odd:Bool
def jT(s:xe):PV:=.agg [.bool s.some,.int .i64 s.last,.int .i64 s.pict,.int .i64 s.conj,.bool s.odd]
def yr(s:xe)(b:Int)(p:Bool)(c:Int):Bool:=!zO s.last b&& !(decide (s.pict=2)&&p)&& !(decide (s.conj=2)&&decide (c=2))&& !(s.odd&&decide (b=6))
def Zn(s:xe)(b:Int)(p:Bool)(c:Int):xe where
 some:=true
 last:=b
 pict:=if p then 1 else if s.pict=1∧b=4 then 1 else if s.pict=1∧b=5 then 2 else 0
 conj:=if c=2 then 1 else if s.conj≠0∧c=1 then 2 else if s.conj≠0∧c=3 then s.conj else 0
 odd:=decide (b=6)&&!s.odd
def Zf(t:zR)(s:xe)(r:Int):xe×Bool:=(Zn s (wx t r) (t.flg (rn r)).p (KI t r),!s.some || yr s (wx t r) (t.flg (rn r)).p (KI t r))
theorem K4 [Gi] {t:zR} {c b j f p:PV}(h:jo t c b j f p)(hz:Qq t)(ck cx sk sx:List PV)(s:xe)(r:Int)(hr:zu r):
  CR Tryz.prog 162 [] [.p (jT s),.p (zF c b j f p ck cx sk sx),.p (.int .i32 r)] [] (is (.tup [.p (jT (Zf t s r).1),.p (.bool (Zf t s r).2)])):=by
 refine zn mixed 14 [] Tryz.func162 rfl (by kernel_rfl) rfl (by simp) (by simp) ?_
 simp (maxSteps:=1000000) [go_sem,Tryz.f162,jT,zF]
 refine⟨⟨rfl,by simp[Tryz.f193]⟩,zc [] (VO h ck cx sk sx hz hr) (by simp[go_sem]) ⟨by simp[go_sem],by simp[go_sem,zF]⟩ (by simp[go_sem]) ?_⟩
 rintro _ rs ⟨rfl,rfl⟩
 simp (maxSteps:=1000000) [go_sem]
 refine⟨⟨rfl,by simp[Tryz.f194]⟩,zc [] (zch h ck cx sk sx hz hr) (by simp[go_sem]) ⟨by simp[go_sem],by simp[go_sem,zF]⟩ (by simp[go_sem]) ?_⟩
 rintro _ rs ⟨rfl,rfl⟩
 simp (maxSteps:=1000000) [go_sem]
 refine⟨⟨rfl,by simp[Tryz.f195]⟩,zc [] (zdr h ck cx sk sx hz hr) (by simp[go_sem]) ⟨by simp[go_sem],by simp[go_sem,zF]⟩ (by simp[go_sem]) ?_⟩
 rintro _ rs ⟨rfl,rfl⟩
 simp (maxSteps:=1000000) [go_sem]
 have hres:Zf t s r=(Zn s (wx t r) (t.flg (rn r)).p (KI t r),!s.some || yr s (wx t r) (t.flg (rn r)).p (KI t r)):=rfl
 rw[hres]
 generalize wx t r=bk
 generalize (t.flg (rn r)).p=pi
 generalize KI t r=cj
 refine⟨⟨rfl,by simp[Tryz.f196]⟩,zc [] (zhw s.last bk) (by simp[go_sem]) ⟨by simp[go_sem],by simp[go_sem]⟩ (by simp[go_sem]) ?_⟩
 rintro _ rs ⟨rfl,rfl⟩
 refine ze1 (fun _:Unit=>True) (fun _=>[(11,.p (.bool (yr s bk pi cj)))]) (fun _=>[]) ?_ ?_
 ·cases hst:zO s.last bk with
  |true=>
   simp (maxSteps:=1000000) [go_sem]
   try simp[yr,hst]
  |false=>
   by_cases hp:s.pict=2
   ·cases hpi:pi with
    |true=>
     simp (maxSteps:=1000000) [go_sem,hp]
     try simp[yr,hst,hp]
    |false=>
     by_cases hc:s.conj=2
     ·by_cases hc2:cj=2
      ·simp (maxSteps:=1000000) [go_sem,hp,hc,hc2]
       try simp[yr,hst,hp,hc]
      ·cases ho:s.odd with
       |false=>
        simp (maxSteps:=1000000) [go_sem,hp,hc,hc2]
        try simp[yr,hst,hp,hc,hc2,ho]
       |true=>
        by_cases hb:bk=6
        ·simp (maxSteps:=1000000) [go_sem,hp,hc,hc2,hb]
         try simp[yr,hp,hc,hc2,ho]
        ·simp (maxSteps:=1000000) [go_sem,hp,hc,hc2,hb]
         try simp[yr,hst,hp,hc,hc2,ho,hb]
     ·cases ho:s.odd with
      |false=>
       simp (maxSteps:=1000000) [go_sem,hp,hc]
       try simp[yr,hst,hp,hc,ho]
      |true=>
       by_cases hb:bk=6
       ·simp (maxSteps:=1000000) [go_sem,hp,hc,hb]
        try simp[yr,hp,hc,ho]
       ·simp (maxSteps:=1000000) [go_sem,hp,hc,hb]
        try simp[yr,hst,hp,hc,ho,hb]
   ·by_cases hc:s.conj=2
    ·by_cases hc2:cj=2
     ·simp (maxSteps:=1000000) [go_sem,hp,hc,hc2]
      try simp[yr,hst,hp,hc]
     ·cases ho:s.odd with
      |false=>
       simp (maxSteps:=1000000) [go_sem,hp,hc,hc2]
       try simp[yr,hst,hp,hc,hc2,ho]
      |true=>
       by_cases hb:bk=6
       ·simp (maxSteps:=1000000) [go_sem,hp,hc,hc2,hb]
        try simp[yr,hp,hc,hc2,ho]
       ·simp (maxSteps:=1000000) [go_sem,hp,hc,hc2,hb]
        try simp[yr,hst,hp,hc,hc2,ho,hb]
    ·cases ho:s.odd with
     |false=>
      simp (maxSteps:=1000000) [go_sem,hp,hc]
      try simp[yr,hst,hp,hc,ho]
     |true=>
      by_cases hb:bk=6
      ·simp (maxSteps:=1000000) [go_sem,hp,hc,hb]
       try simp[yr,hp,hc,ho]
      ·simp (maxSteps:=1000000) [go_sem,hp,hc,hb]
       try simp[yr,hst,hp,hc,ho,hb]
 ·rintro _ ts _
  simp only[zdt]
  rw[zbG]
  refine Ul (fun _:Unit=>True) (fun _=>[(12,.lp [12] 0)]) (fun _=>[([12],[.p (.bool true),.p (.int .i64 bk),.p (.int .i64 0),.p (.int .i64 0),.p (.bool (decide (bk=6)&&!s.odd))])]) ?_ ?_
  ·by_cases hb:bk=6
   ·cases ho:s.odd with
    |true=>
     simp (maxSteps:=1000000) [go_sem,hb]
     exact zW () trivial (by simp[go_sem])
    |false=>
     simp (maxSteps:=1000000) [go_sem,hb]
     exact zW () trivial (by simp[go_sem])
   ·simp (maxSteps:=1000000) [go_sem,hb]
    exact zW () trivial (by simp[go_sem])
  ·rintro _ ts2 _
   rw[zbG]
   obtain⟨np,hnp⟩:∃np,np=(Zn s bk pi cj).pict:=⟨_,rfl⟩
   refine Ul (fun _:Unit=>True) (fun _=>[]) (fun _=>[([12],[.p (.bool true),.p (.int .i64 bk),.p (.int .i64 np),.p (.int .i64 0),.p (.bool (decide (bk=6)&&!s.odd))])]) ?_ ?_
   ·cases hpi:pi with
    |true=>
     have e:np=1:=by rw[hnp];simp[Zn,hpi]
     simp (maxSteps:=1000000) [go_sem]
     exact zW () trivial (by simp[go_sem,e])
    |false=>
     by_cases hp:s.pict=1
     ·by_cases hb4:bk=4
      ·have e:np=1:=by rw[hnp];simp[Zn,hpi,hp,hb4]
       simp (maxSteps:=1000000) [go_sem,hp,hb4]
       exact zW () trivial (by simp[go_sem,e])
      ·by_cases hb5:bk=5
       ·have e:np=2:=by rw[hnp];simp[Zn,hpi,hp,hb5]
        simp (maxSteps:=1000000) [go_sem,hp,hb5]
        exact zW () trivial (by simp[go_sem,e])
       ·have e:np=0:=by rw[hnp];simp[Zn,hpi,hp,hb4,hb5]
        simp (maxSteps:=1000000) [go_sem,hp,hb4,hb5]
        exact zW () trivial (by simp[go_sem,e])
     ·have e:np=0:=by rw[hnp];simp[Zn,hpi,hp]
      simp (maxSteps:=1000000) [go_sem,hp]
      exact zW () trivial (by simp[go_sem,e])
   ·rintro _ ts3 _
    rw[zbG]
    obtain⟨nc,hnc⟩:∃nc,nc=(Zn s bk pi cj).conj:=⟨_,rfl⟩
    refine Ul (fun _:Unit=>True) (fun _=>[]) (fun _=>[([12],[.p (.bool true),.p (.int .i64 bk),.p (.int .i64 np),.p (.int .i64 nc),.p (.bool (decide (bk=6)&&!s.odd))])]) ?_ ?_
    ·by_cases hc:cj=2
     ·have e:nc=1:=by rw[hnc];simp[Zn,hc]
      simp (maxSteps:=1000000) [go_sem,hc]
      exact zW () trivial (by simp[go_sem,e])
     ·by_cases hz0:s.conj=0
      ·have e:nc=0:=by rw[hnc];simp[Zn,hc,hz0]
       simp (maxSteps:=1000000) [go_sem,hc,hz0]
       exact zW () trivial (by simp[go_sem,e])
      ·by_cases hc1:cj=1
       ·have e:nc=2:=by rw[hnc];simp[Zn,hz0,hc1]
        simp (maxSteps:=1000000) [go_sem,hz0,hc1]
        exact zW () trivial (by simp[go_sem,e])
       ·by_cases hc3:cj=3
        ·have e:nc=s.conj:=by rw[hnc];simp[Zn,hz0,hc3]
         simp (maxSteps:=1000000) [go_sem,hz0,hc3]
         exact zW () trivial (by simp[go_sem,e])
        ·have e:nc=0:=by rw[hnc];simp[Zn,hc,hz0,hc1,hc3]
         simp (maxSteps:=1000000) [go_sem,hc,hz0,hc1,hc3]
         exact zW () trivial (by simp[go_sem,e])
    ·rintro _ ts4 _
     have hno:(Zn s bk pi cj).odd=(decide (bk=6)&&!s.odd):=rfl
     have hns:(Zn s bk pi cj).some=true:=rfl
     have hnl:(Zn s bk pi cj).last=bk:=rfl
     cases hso:s.some with
     |true=>
      simp (maxSteps:=1000000) [go_sem]
      exact zg (.tup [.p (jT (Zn s bk pi cj)),.p (.bool (!s.some || yr s bk pi cj))]) rfl (by simp[go_sem,zd,leA,leT,leP,jT,hso,hno,hns,hnl,←hnp,←hnc]) ⟨rfl,by simp[jT,hso]⟩
     |false=>
      simp (maxSteps:=1000000) [go_sem]
      exact zg (.tup [.p (jT (Zn s bk pi cj)),.p (.bool (!s.some || yr s bk pi cj))]) rfl (by simp[go_sem,zd,leA,leT,leP,jT,hso,hno,hns,hnl,←hnp,←hnc]) ⟨rfl,by simp[jT,hso]⟩
end Go.Proofs.YthbmelihnabkaaaGreat
end
