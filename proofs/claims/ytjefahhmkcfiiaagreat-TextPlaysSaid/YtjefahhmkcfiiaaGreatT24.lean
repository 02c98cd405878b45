/- A part of the proof of this seat's statements, by an abstract machine: what each operation does to values, and what the law's functions compute. Conditions: as each law says. -/
import Derived.Test.YtjefahhmkcfiiaaGreatT23
import Derived.Test.YtjefahhmkcfiiaaGreatT18
import Derived.Test.YtjefahhmkcfiiaaGreatT16
import Derived.Test.YtjefahhmkcfiiaaGreatT17
section
namespace Go.Proofs.YtjefahhmkcfiiaaGreat
open Go.AM
set_option maxHeartbeats 4000000
set_option maxRecDepth 100000
def chainB:List Span→Bool
 | []=>true
 | [s]=>decide (s.f≤s.t)
 |s::x::l=>decide (s.f≤s.t)&&decide (s.t<x.f)&&chainB (x::l)
theorem ub:∀l:List Span,chainB l=true→Ze l
 | [],_=>trivial
 | [s],h=>⟨by simpa[chainB]using h,by simp,trivial⟩
 |s::x::l,h=>by
  simp only[chainB,Bool.and_eq_true,decide_eq_true_eq]at h
  obtain⟨⟨h1,h2⟩,h3⟩:=h
  have ih:=ub (x::l) h3
  refine⟨h1,fun y hy=>?_,ih⟩
  rcases List.mem_cons.1 hy with rfl|hy
  ·exact h2
  ·have:=ih.2.1 y hy
   have:=ih.1
   omega
def WZ(l:List Row)(k:Int):Bool:=
 chainB (zU l k)&&(zU l k).all (fun s=>decide (-1000000000≤s.t)&&decide (s.t≤1000000000))&&decide ((zU l k).length<256)&&
 chainB (qt l k)&&(qt l k).all (fun s=>decide (0≤s.f)&&decide (s.t≤1114111))&&decide ((qt l k).length<256)
theorem jQ {l:List Row} {k:Int}(h:WZ l k=true):Z1 l k:=by
 simp only[WZ,Bool.and_eq_true,decide_eq_true_eq,List.all_eq_true]at h
 obtain⟨⟨⟨⟨⟨h1,h2⟩,h3⟩,h4⟩,h5⟩,h6⟩:=h
 exact⟨ub _ h1,h2,h3,ub _ h4,h5,h6⟩
def zgI(l:List Row):Bool:=(qt l 2).all fun s=>decide (0≤s.a)&&decide (s.a<1114112)&&decide (0≤s.b)&&decide (s.b<1114112)
theorem zqA:WZ za 1=true:=by decide+kernel
theorem zqu:WZ za 2=true:=by decide+kernel
theorem zpo:WZ za 3=true:=by decide+kernel
theorem zqw:WZ za 4=true:=by decide+kernel
theorem zqD:WZ za 5=true:=by decide+kernel
theorem zqC:WZ za 6=true:=by decide+kernel
theorem zqq:WZ za 7=true:=by decide+kernel
theorem zpK:WZ za 8=true:=by decide+kernel
theorem zpO:zgI za=true:=by decide+kernel
theorem zp6:za.length<2^31:=by decide+kernel
def T0:zV:=Za za
def M0:List (Zh×Int)×List Int:=made za
def Zc(x:PV):Prop:=∃c b j f p,QS T0 c b j f p∧x=zF c b j f p (ckP M0.1) (cxP M0.1) (Zl M0.2) (qi M0.2)
theorem K4 [Gi]:CR Tryz.prog 17 [] [.p (zK za)] [] (fun x rs=>rs=[]∧∃e,x=.p e∧Zc e):=by
 have hp:∀s∈qt za 2,0≤s.a∧s.a<1114112∧0≤s.b∧s.b<1114112:=by
  have:=zpO
  simp only[zgI,Bool.and_eq_true,decide_eq_true_eq,List.all_eq_true]at this
  exact fun s hs=>⟨(this s hs).1.1.1,(this s hs).1.1.2,(this s hs).1.2,(this s hs).2⟩
 intro w g vs h1 h2
 refine(zko za zp6 (jQ zqA) (jQ zqu) (jQ zpo) (jQ zqw) (jQ zqD) (jQ zqC) (jQ zqq) (jQ zpK) hp w g vs h1 h2).mono ?_
 rintro e w' ⟨v,x,rs',g',h3,⟨rfl,c,b,j,f,p,hT,rfl⟩,h4⟩
 exact⟨v,_,_,g',h3,⟨rfl,_,rfl,c,b,j,f,p,hT,rfl⟩,h4⟩
end Go.Proofs.YtjefahhmkcfiiaaGreat
end
section
namespace Go.Proofs.YtjefahhmkcfiiaaGreat
open Go.AM
set_option maxHeartbeats 4000000
set_option maxRecDepth 10000
def rn(x:Int):Nat:=if 0≤x∧x<1114112 then x.toNat else 1114112
theorem Vf {x:Int}(h:0≤x∧x<1114112):rn x=x.toNat:=if_pos h
theorem wg {x:Int}(h:¬(0≤x∧x<1114112)):rn x=1114112:=if_neg h
structure Qg(t:zV):Prop where
 c:t.cls 1114112=0
 b:t.brk 1114112=0
 j:t.cnj 1114112=0
 f:t.flg 1114112=⟨false,false,false,false⟩
 p:t.par 1114112=⟨0,0⟩
theorem Z3:Qg T0:=⟨by decide+kernel,by decide+kernel,by decide+kernel,by decide+kernel,by decide+kernel⟩
theorem Wo [Gi] {val:Nat→Int} {e:PV}(h:yG 1 1114112 (fun j=>[.int .i64 (val j)]) e)(hz:val 1114112=0)(i:Int):CR Tryz.prog 170 [] [.p e,.p (.int .i64 i)] [] (is (.p (.int .i64 (val (rn i))))):=by
 by_cases hi:0≤i∧i<1114112
 ·rw[Vf hi]
  have e1:((i.toNat:Nat):Int)=i:=by omega
  have:=zbW h (by omega) (i:=i.toNat) (by omega)
  rw[e1]at this
  exact this
 ·rw[wg hi,hz]
  obtain⟨idx,blocks,rfl,_⟩:=h
  refine zS [] mixed 6 [] Tryz.func170 rfl (by kernel_rfl) rfl (by simp) (by simp) ?_
  by_cases h0:i<0
  ·simp[go_sem,Tryz.f170,QY,h0]
   exact zh (.p (.int .i64 0)) rfl (by simp[go_sem,zd,leA,leT]) ⟨rfl,rfl⟩
  ·have h1:(1114112:Int)≤i:=by omega
   simp[go_sem,Tryz.f170,QY,h0,h1]
   exact zh (.p (.int .i64 0)) rfl (by simp[go_sem,zd,leA,leT]) ⟨rfl,rfl⟩
theorem K8 [Gi] {val:Nat→Flags} {e:PV}(h:yG 4 1114112 (fun j=>qF (val j)) e)(hz:val 1114112=⟨false,false,false,false⟩)(i:Int):CR Tryz.prog 123 [] [.p e,.p (.int .i64 i)] [] (is (.p (.agg (qF (val (rn i)))))):=by
 by_cases hi:0≤i∧i<1114112
 ·rw[Vf hi]
  have e1:((i.toNat:Nat):Int)=i:=by omega
  have:=za4 h (by omega) (i:=i.toNat) (by omega)
  rw[e1]at this
  exact this
 ·rw[wg hi,hz]
  obtain⟨idx,blocks,rfl,_⟩:=h
  refine zS [] mixed 6 [] Tryz.func123 rfl (by kernel_rfl) rfl (by simp) (by simp) ?_
  by_cases h0:i<0
  ·simp[go_sem,Tryz.f123,QY,h0]
   exact zh (.p (.agg [.bool false,.bool false,.bool false,.bool false])) rfl (by simp[go_sem,zd,leA,leT]) ⟨rfl,rfl⟩
  ·have h1:(1114112:Int)≤i:=by omega
   simp[go_sem,Tryz.f123,QY,h0,h1]
   exact zh (.p (.agg [.bool false,.bool false,.bool false,.bool false])) rfl (by simp[go_sem,zd,leA,leT]) ⟨rfl,rfl⟩
theorem zik [Gi] {val:Nat→Zh} {e:PV}(h:yG 2 1114112 (fun j=>qu (val j)) e)(hz:val 1114112=⟨0,0⟩)(i:Int):CR Tryz.prog 69 [] [.p e,.p (.int .i64 i)] [] (is (.p (.agg (qu (val (rn i)))))):=by
 by_cases hi:0≤i∧i<1114112
 ·rw[Vf hi]
  have e1:((i.toNat:Nat):Int)=i:=by omega
  have:=K1 h (by omega) (i:=i.toNat) (by omega)
  rw[e1]at this
  exact this
 ·rw[wg hi,hz]
  obtain⟨idx,blocks,rfl,_⟩:=h
  refine zS [] mixed 6 [] Tryz.func69 rfl (by kernel_rfl) rfl (by simp) (by simp) ?_
  by_cases h0:i<0
  ·simp[go_sem,Tryz.f69,QY,h0]
   exact zh (.p (.agg [.int .i32 0,.int .i32 0])) rfl (by simp[go_sem,zd,leA,leT]) ⟨rfl,rfl⟩
  ·have h1:(1114112:Int)≤i:=by omega
   simp[go_sem,Tryz.f69,QY,h0,h1]
   exact zh (.p (.agg [.int .i32 0,.int .i32 0])) rfl (by simp[go_sem,zd,leA,leT]) ⟨rfl,rfl⟩
def vK(t:zV)(i:Int):Int:=if 44032≤i∧i≤55203 then(if(i-44032)%28=0 then 12 else 13)else t.brk (rn i)
def J0(t:zV)(i:Int):Int:=if t.cnj (rn i)≠0 then t.cnj (rn i)else if(vK t i=4∨vK t i=5)∧i≠8204 then 3 else 0
theorem Qb [Gi] {t:zV} {c b j f p:PV}(h:QS t c b j f p)(ck cx sk sx:List PV)(hz:Qg t) {i:Int}(hi: -2147483648≤i∧i<2147483648):
  CR Tryz.prog 124 [] [.p (zF c b j f p ck cx sk sx),.p (.int .i32 i)] [] (is (.p (.int .i64 (t.cls (rn i))))):=by
 have w1:IntKind.i64.wrap i=i:=wrap64 (by omega) (by omega)
 refine zm mixed 5 [] Tryz.func124 rfl (by kernel_rfl) rfl (by simp) (by simp) ?_
 obtain⟨_,_,e,_⟩:=id h.c
 simp (maxSteps:=1000000) [go_sem,Tryz.f124,zF,w1]
 refine⟨⟨rfl,by simp[Tryz.f170]⟩,zb [] (Wo h.c hz.c i) (by simp[go_sem]) ⟨by simp[go_sem],by simp[go_sem]⟩ (by simp[go_sem]) ?_⟩
 rintro _ rs ⟨rfl,rfl⟩
 simp (maxSteps:=1000000) [go_sem]
 exact zh (.p (.int .i64 (t.cls (rn i)))) rfl (by simp[go_sem,zd,leA,leT]) ⟨rfl,rfl⟩
theorem uX [Gi] {t:zV} {c b j f p:PV}(h:QS t c b j f p)(ck cx sk sx:List PV)(hz:Qg t) {i:Int}(hi: -2147483648≤i∧i<2147483648):
  CR Tryz.prog 122 [] [.p (zF c b j f p ck cx sk sx),.p (.int .i32 i)] [] (is (V8 (t.par (rn i)))):=by
 have w1:IntKind.i64.wrap i=i:=wrap64 (by omega) (by omega)
 refine zS [4] mixed 8 [] Tryz.func122 rfl (by kernel_rfl) rfl (by simp) (by simp) ?_
 simp (maxSteps:=1000000) [go_sem,Tryz.f122,zF,w1]
 refine⟨⟨rfl,by simp[Tryz.f69]⟩,zb [] (zik h.p hz.p i) (by simp[go_sem]) ⟨by simp[go_sem],by simp[go_sem]⟩ (by simp[go_sem]) ?_⟩
 rintro _ rs ⟨rfl,rfl⟩
 generalize t.par (rn i)=q
 simp (maxSteps:=1000000) [go_sem,qu]
 exact zh (.tup [.p (.int .i32 q.a),.p (.int .i32 q.b),.p (.bool (!decide (q.a=0) ||!decide (q.b=0)))]) rfl (by simp[go_sem,zd,leA,leT,leP]) ⟨rfl,rfl⟩
theorem zd6 [Gi] {t:zV} {c b j f p:PV}(h:QS t c b j f p)(ck cx sk sx:List PV)(hz:Qg t) {i:Int}(hi: -2147483648≤i∧i<2147483648):
  CR Tryz.prog 203 [] [.p (zF c b j f p ck cx sk sx),.p (.int .i32 i)] [] (is (.p (.bool (t.flg (rn i)).p))):=by
 have w1:IntKind.i64.wrap i=i:=wrap64 (by omega) (by omega)
 refine zm mixed 5 [] Tryz.func203 rfl (by kernel_rfl) rfl (by simp) (by simp) ?_
 simp (maxSteps:=1000000) [go_sem,Tryz.f203,zF,w1]
 refine⟨⟨rfl,by simp[Tryz.f123]⟩,zb [] (K8 h.f hz.f i) (by simp[go_sem]) ⟨by simp[go_sem],by simp[go_sem]⟩ (by simp[go_sem]) ?_⟩
 rintro _ rs ⟨rfl,rfl⟩
 generalize t.flg (rn i)=q
 simp (maxSteps:=1000000) [go_sem,qF]
 exact zh (.p (.bool q.p)) rfl (by simp[go_sem,zd,leA,leT]) ⟨rfl,rfl⟩
theorem XS [Gi] {t:zV} {c b j f p:PV}(h:QS t c b j f p)(ck cx sk sx:List PV)(hz:Qg t) {i:Int}(hi: -2147483648≤i∧i<2147483648):
  CR Tryz.prog 131 [] [.p (zF c b j f p ck cx sk sx),.p (.int .i32 i)] [] (is (.p (.bool (t.flg (rn i)).l))):=by
 have w1:IntKind.i64.wrap i=i:=wrap64 (by omega) (by omega)
 refine zm mixed 5 [] Tryz.func131 rfl (by kernel_rfl) rfl (by simp) (by simp) ?_
 simp (maxSteps:=1000000) [go_sem,Tryz.f131,zF,w1]
 refine⟨⟨rfl,by simp[Tryz.f123]⟩,zb [] (K8 h.f hz.f i) (by simp[go_sem]) ⟨by simp[go_sem],by simp[go_sem]⟩ (by simp[go_sem]) ?_⟩
 rintro _ rs ⟨rfl,rfl⟩
 generalize t.flg (rn i)=q
 simp (maxSteps:=1000000) [go_sem,qF]
 exact zh (.p (.bool q.l)) rfl (by simp[go_sem,zd,leA,leT]) ⟨rfl,rfl⟩
theorem K3 [Gi] {t:zV} {c b j f p:PV}(h:QS t c b j f p)(ck cx sk sx:List PV)(hz:Qg t) {i:Int}(hi: -2147483648≤i∧i<2147483648):
  CR Tryz.prog 202 [] [.p (zF c b j f p ck cx sk sx),.p (.int .i32 i)] [] (is (.p (.int .i64 (vK t i)))):=by
 have w1:IntKind.i64.wrap i=i:=wrap64 (by omega) (by omega)
 refine zm mixed 6 [] Tryz.func202 rfl (by kernel_rfl) rfl (by simp) (by simp) ?_
 have hB:44032≤i→i≤55203→(i-44032).tmod 28=(i-44032)%28:=fun h1 _=>Int.tmod_eq_emod_of_nonneg (by omega)
 have w2:44032≤i→IntKind.i32.wrap (i-44032)=i-44032:=fun _=>by simp[IntKind.wrap,IntKind.signed,IntKind.bits];omega
 by_cases h1:44032≤i∧i≤55203
 ·have a1:(44032:Int)≤i:=by omega
  have a2:i≤55203:=by omega
  have a3:=hB h1.1 h1.2
  have w3:=w2 h1.1
  generalize hm:(i-44032)%28=m at a3
  by_cases h2:m=0
  ·subst h2
   have e:vK t i=12:=by unfold vK;rw[if_pos h1,if_pos hm]
   rw[e]
   simp (maxSteps:=1000000) [go_sem,Tryz.f202,zF,w3,a1,a2,a3]
   exact zh (.p (.int .i64 12)) rfl (by simp[go_sem,zd,leA,leT]) ⟨rfl,rfl⟩
  ·have e:vK t i=13:=by unfold vK;rw[if_pos h1,if_neg (by omega)]
   rw[e]
   simp (maxSteps:=1000000) [go_sem,Tryz.f202,zF,w3,a1,a2,a3,h2]
   exact zh (.p (.int .i64 13)) rfl (by simp[go_sem,zd,leA,leT]) ⟨rfl,rfl⟩
 ·have e:vK t i=t.brk (rn i):=by unfold vK;rw[if_neg h1]
  rw[e]
  by_cases a1:(44032:Int)≤i
  ·have a2:¬(i≤55203):=by omega
   simp (maxSteps:=1000000) [go_sem,Tryz.f202,zF,w1,a1,a2]
   refine⟨⟨rfl,by simp[Tryz.f170]⟩,zb [] (Wo h.b hz.b i) (by simp[go_sem]) ⟨by simp[go_sem],by simp[go_sem]⟩ (by simp[go_sem]) ?_⟩
   rintro _ rs ⟨rfl,rfl⟩
   simp (maxSteps:=1000000) [go_sem]
   exact zh (.p (.int .i64 (t.brk (rn i)))) rfl (by simp[go_sem,zd,leA,leT]) ⟨rfl,rfl⟩
  ·simp (maxSteps:=1000000) [go_sem,Tryz.f202,zF,w1,a1]
   refine⟨⟨rfl,by simp[Tryz.f170]⟩,zb [] (Wo h.b hz.b i) (by simp[go_sem]) ⟨by simp[go_sem],by simp[go_sem]⟩ (by simp[go_sem]) ?_⟩
   rintro _ rs ⟨rfl,rfl⟩
   simp (maxSteps:=1000000) [go_sem]
   exact zh (.p (.int .i64 (t.brk (rn i)))) rfl (by simp[go_sem,zd,leA,leT]) ⟨rfl,rfl⟩
theorem zeY [Gi] {t:zV} {c b j f p:PV}(h:QS t c b j f p)(ck cx sk sx:List PV)(hz:Qg t) {i:Int}(hi: -2147483648≤i∧i<2147483648):
  CR Tryz.prog 204 [] [.p (zF c b j f p ck cx sk sx),.p (.int .i32 i)] [] (is (.p (.int .i64 (J0 t i)))):=by
 have w1:IntKind.i64.wrap i=i:=wrap64 (by omega) (by omega)
 refine zm mixed 7 [] Tryz.func204 rfl (by kernel_rfl) rfl (by simp) (by simp) ?_
 simp (maxSteps:=1000000) [go_sem,Tryz.f204,zF,w1]
 refine⟨⟨rfl,by simp[Tryz.f170]⟩,zb [] (Wo h.j hz.j i) (by simp[go_sem]) ⟨by simp[go_sem],by simp[go_sem]⟩ (by simp[go_sem]) ?_⟩
 rintro _ rs ⟨rfl,rfl⟩
 simp (maxSteps:=1000000) [go_sem]
 by_cases h1:t.cnj (rn i)=0
 ·simp (maxSteps:=1000000) [go_sem,h1]
  refine⟨⟨rfl,by simp[Tryz.f202]⟩,zb [] (K3 h ck cx sk sx hz hi) (by simp[go_sem]) ⟨by simp[go_sem],by simp[go_sem,zF]⟩ (by simp[go_sem]) ?_⟩
  rintro _ rs ⟨rfl,rfl⟩
  have e:J0 t i=if(vK t i=4∨vK t i=5)∧i≠8204 then 3 else 0:=by unfold J0;rw[if_neg (fun h=>h h1)]
  rw[e]
  generalize vK t i=v
  by_cases h2:(v=4∨v=5)∧i≠8204
  ·rw[if_pos h2]
   have h3:¬(i=8204):=by omega
   rcases h2.1 with rfl|rfl
   ·simp (maxSteps:=1000000) [go_sem,h3]
    exact zh (.p (.int .i64 3)) rfl (by simp[go_sem,zd,leA,leT]) ⟨rfl,rfl⟩
   ·simp (maxSteps:=1000000) [go_sem,h3]
    exact zh (.p (.int .i64 3)) rfl (by simp[go_sem,zd,leA,leT]) ⟨rfl,rfl⟩
  ·rw[if_neg h2]
   by_cases h4:v=4
   ·have h3:i=8204:=by omega
    simp (maxSteps:=1000000) [go_sem,h4,h3]
    exact zh (.p (.int .i64 0)) rfl (by simp[go_sem,zd,leA,leT]) ⟨rfl,rfl⟩
   ·by_cases h5:v=5
    ·have h3:i=8204:=by omega
     simp (maxSteps:=1000000) [go_sem,h5,h3]
     exact zh (.p (.int .i64 0)) rfl (by simp[go_sem,zd,leA,leT]) ⟨rfl,rfl⟩
    ·simp (maxSteps:=1000000) [go_sem,h4,h5]
     exact zh (.p (.int .i64 0)) rfl (by simp[go_sem,zd,leA,leT]) ⟨rfl,rfl⟩
 ·have e:J0 t i=t.cnj (rn i):=by unfold J0;rw[if_pos h1]
  rw[e]
  simp (maxSteps:=1000000) [go_sem,h1]
  exact zh (.p (.int .i64 (t.cnj (rn i)))) rfl (by simp[go_sem,zd,leA,leT]) ⟨rfl,rfl⟩
end Go.Proofs.YtjefahhmkcfiiaaGreat
end
section
namespace Go.Proofs.YtjefahhmkcfiiaaGreat
open Go.AM
set_option maxHeartbeats 4000000
set_option maxRecDepth 10000
theorem KO [Gi] {P:Program} {D:List Nat} {c y:Code} {Q:Exit→St→Prop} {S:St} {ι:Type}(inv:ι→Prop)(V:ι→List (Nat×AV))(R:ι→List (Tok×List AV))(h:wpA P D c (YC S inv V R Q) S)
  (hr:∀i ts,inv i→wpA P D y Q (S.zdR (V i) (R i) ts)):wpA P D c (zgC P D y Q) S:=
 jM c (fun e S' h=>by
  cases e with
  |normal=>obtain⟨i,ts,hi,rfl⟩:=h;exact hr i ts hi
  |_=>exact h) h
theorem zgc [Gi] {P:Program} {ops:Array Oper} {rest:List Oper} {K:St→Prop} {S:St} {ι:Type}(inv:ι→Prop)(V:ι→List (Nat×AV))(R:ι→List (Tok×List AV))(h:Qp P ops rest S (fun S'=>∃i ts,inv i∧S'=S.zdR (V i) (R i) ts))
  (hk:∀i ts,inv i→K (S.zdR (V i) (R i) ts)):zoC P ops rest K S:=
 WL (fun S' hx=>by obtain⟨i,ts,hi,e⟩:=hx;rw[e];exact hk i ts hi) h
def zT(a b:Int):Bool:=
 if a=1 then decide (b=2)
 else if a=2∨a=3 then false
 else if b=1∨b=2∨b=3 then false
 else if b=4∨b=5∨b=8 then true
 else if a=7 then true
 else if a=9 then decide (b=9) || decide (b=10) || decide (b=12) || decide (b=13)
 else if a=12∨a=10 then decide (b=10) || decide (b=11)
 else if a=13∨a=11 then decide (b=11)
 else false
theorem zi8 [Gi](a b:Int):CR Tryz.prog 205 [] [.p (.int .i64 a),.p (.int .i64 b)] [] (is (.p (.bool (zT a b)))):=by
 refine zm mixed 55 [] Tryz.func205 rfl (by kernel_rfl) rfl (by simp) (by simp) ?_
 by_cases a1:a=1
 ·simp (maxSteps:=1000000) [go_sem,Tryz.f205,a1]
  exact zh (.p (.bool (zT a b))) rfl (by simp[go_sem,zd,leA,leT,zT,a1]) ⟨rfl,by first|rfl|simp[a1]⟩
 by_cases a2:a=2
 ·simp (maxSteps:=1000000) [go_sem,Tryz.f205,a2]
  exact zh (.p (.bool (zT a b))) rfl (by simp[go_sem,zd,leA,leT,zT,a2]) ⟨rfl,by first|rfl|simp[a2]⟩
 by_cases a3:a=3
 ·simp (maxSteps:=1000000) [go_sem,Tryz.f205,a3]
  exact zh (.p (.bool (zT a b))) rfl (by simp[go_sem,zd,leA,leT,zT,a3]) ⟨rfl,by first|rfl|simp[a3]⟩
 by_cases b1:b=1
 ·simp (maxSteps:=1000000) [go_sem,Tryz.f205,a1,a2,a3,b1]
  exact zh (.p (.bool (zT a b))) rfl (by simp[go_sem,zd,leA,leT,zT,a1,a2,a3,b1]) ⟨rfl,by first|rfl|simp[b1]⟩
 by_cases b2:b=2
 ·simp (maxSteps:=1000000) [go_sem,Tryz.f205,a1,a2,a3,b2]
  exact zh (.p (.bool (zT a b))) rfl (by simp[go_sem,zd,leA,leT,zT,a1,a2,a3,b2]) ⟨rfl,by first|rfl|simp[b2]⟩
 by_cases b3:b=3
 ·simp (maxSteps:=1000000) [go_sem,Tryz.f205,a1,a2,a3,b3]
  exact zh (.p (.bool (zT a b))) rfl (by simp[go_sem,zd,leA,leT,zT,a1,a2,a3,b3]) ⟨rfl,by first|rfl|simp[b3]⟩
 by_cases b4:b=4
 ·simp (maxSteps:=1000000) [go_sem,Tryz.f205,a1,a2,a3,b4]
  exact zh (.p (.bool (zT a b))) rfl (by simp[go_sem,zd,leA,leT,zT,a1,a2,a3,b4]) ⟨rfl,by first|rfl|simp[b4]⟩
 by_cases b5:b=5
 ·simp (maxSteps:=1000000) [go_sem,Tryz.f205,a1,a2,a3,b5]
  exact zh (.p (.bool (zT a b))) rfl (by simp[go_sem,zd,leA,leT,zT,a1,a2,a3,b5]) ⟨rfl,by first|rfl|simp[b5]⟩
 by_cases b8:b=8
 ·simp (maxSteps:=1000000) [go_sem,Tryz.f205,a1,a2,a3,b8]
  exact zh (.p (.bool (zT a b))) rfl (by simp[go_sem,zd,leA,leT,zT,a1,a2,a3,b8]) ⟨rfl,by first|rfl|simp[b8]⟩
 by_cases a7:a=7
 ·simp (maxSteps:=1000000) [go_sem,Tryz.f205,b1,b2,b3,b4,b5,b8,a7]
  exact zh (.p (.bool (zT a b))) rfl (by simp[go_sem,zd,leA,leT,zT,b1,b2,b3,b4,b5,b8,a7]) ⟨rfl,by first|rfl|simp[a7]⟩
 by_cases a9:a=9
 ·by_cases b9:b=9
  ·simp (maxSteps:=1000000) [go_sem,Tryz.f205,a9,b9]
   exact zh (.p (.bool (zT a b))) rfl (by simp[go_sem,zd,leA,leT,zT,a9,b9]) ⟨rfl,by first|rfl|simp[a9,b9]⟩
  by_cases b10:b=10
  ·simp (maxSteps:=1000000) [go_sem,Tryz.f205,a9,b10]
   exact zh (.p (.bool (zT a b))) rfl (by simp[go_sem,zd,leA,leT,zT,a9,b10]) ⟨rfl,by first|rfl|simp[a9,b10]⟩
  by_cases b12:b=12
  ·simp (maxSteps:=1000000) [go_sem,Tryz.f205,a9,b12]
   exact zh (.p (.bool (zT a b))) rfl (by simp[go_sem,zd,leA,leT,zT,a9,b12]) ⟨rfl,by first|rfl|simp[a9,b12]⟩
  by_cases b13:b=13
  ·simp (maxSteps:=1000000) [go_sem,Tryz.f205,a9,b13]
   exact zh (.p (.bool (zT a b))) rfl (by simp[go_sem,zd,leA,leT,zT,a9,b13]) ⟨rfl,by first|rfl|simp[a9,b13]⟩
  simp (maxSteps:=1000000) [go_sem,Tryz.f205,b1,b2,b3,b4,b5,b8,a9,b9,b10,b12,b13]
  exact zh (.p (.bool (zT a b))) rfl (by simp[go_sem,zd,leA,leT,zT,b1,b2,b3,b4,b5,b8,a9,b9,b10,b12,b13]) ⟨rfl,by first|rfl|simp[a9]⟩
 by_cases a12:a=12
 ·by_cases b10:b=10
  ·simp (maxSteps:=1000000) [go_sem,Tryz.f205,a12,b10]
   exact zh (.p (.bool (zT a b))) rfl (by simp[go_sem,zd,leA,leT,zT,a12,b10]) ⟨rfl,by first|rfl|simp[a12,b10]⟩
  by_cases b11:b=11
  ·simp (maxSteps:=1000000) [go_sem,Tryz.f205,a12,b11]
   exact zh (.p (.bool (zT a b))) rfl (by simp[go_sem,zd,leA,leT,zT,a12,b11]) ⟨rfl,by first|rfl|simp[a12,b11]⟩
  simp (maxSteps:=1000000) [go_sem,Tryz.f205,b1,b2,b3,b4,b5,b8,a12,b10,b11]
  exact zh (.p (.bool (zT a b))) rfl (by simp[go_sem,zd,leA,leT,zT,b1,b2,b3,b4,b5,b8,a12,b10,b11]) ⟨rfl,by first|rfl|simp[a12]⟩
 by_cases a10:a=10
 ·by_cases b10:b=10
  ·simp (maxSteps:=1000000) [go_sem,Tryz.f205,a10,b10]
   exact zh (.p (.bool (zT a b))) rfl (by simp[go_sem,zd,leA,leT,zT,a10,b10]) ⟨rfl,by first|rfl|simp[a10,b10]⟩
  by_cases b11:b=11
  ·simp (maxSteps:=1000000) [go_sem,Tryz.f205,a10,b11]
   exact zh (.p (.bool (zT a b))) rfl (by simp[go_sem,zd,leA,leT,zT,a10,b11]) ⟨rfl,by first|rfl|simp[a10,b11]⟩
  simp (maxSteps:=1000000) [go_sem,Tryz.f205,b1,b2,b3,b4,b5,b8,a10,b10,b11]
  exact zh (.p (.bool (zT a b))) rfl (by simp[go_sem,zd,leA,leT,zT,b1,b2,b3,b4,b5,b8,a10,b10,b11]) ⟨rfl,by first|rfl|simp[a10]⟩
 by_cases a13:a=13
 ·simp (maxSteps:=1000000) [go_sem,Tryz.f205,b1,b2,b3,b4,b5,b8,a13]
  exact zh (.p (.bool (zT a b))) rfl (by simp[go_sem,zd,leA,leT,zT,b1,b2,b3,b4,b5,b8,a13]) ⟨rfl,by first|rfl|simp[a13]⟩
 by_cases a11:a=11
 ·simp (maxSteps:=1000000) [go_sem,Tryz.f205,b1,b2,b3,b4,b5,b8,a11]
  exact zh (.p (.bool (zT a b))) rfl (by simp[go_sem,zd,leA,leT,zT,b1,b2,b3,b4,b5,b8,a11]) ⟨rfl,by first|rfl|simp[a11]⟩
 simp (maxSteps:=1000000) [go_sem,Tryz.f205,a1,a2,a3,b1,b2,b3,b4,b5,b8,a7,a9,a12,a10,a13,a11]
 exact zh (.p (.bool (zT a b))) rfl (by simp[go_sem,zd,leA,leT,zT,a1,a2,a3,b1,b2,b3,b4,b5,b8,a7,a9,a12,a10,a13,a11]) ⟨rfl,by first|rfl|simp[a1,a2,a3,b1,b2,b3,b4,b5,b8,a7,a9,a12,a10,a13,a11]⟩
structure xP where
 some:Bool
 last:Int
 pict:Int
 conj:Int
 odd:Bool
def kx(s:xP):PV:=.agg [.bool s.some,.int .i64 s.last,.int .i64 s.pict,.int .i64 s.conj,.bool s.odd]
def yR(s:xP)(b:Int)(p:Bool)(c:Int):Bool:=!zT s.last b&& !(decide (s.pict=2)&&p)&& !(decide (s.conj=2)&&decide (c=2))&& !(s.odd&&decide (b=6))
def Zy(s:xP)(b:Int)(p:Bool)(c:Int):xP where
 some:=true
 last:=b
 pict:=if p then 1 else if s.pict=1∧b=4 then 1 else if s.pict=1∧b=5 then 2 else 0
 conj:=if c=2 then 1 else if s.conj≠0∧c=1 then 2 else if s.conj≠0∧c=3 then s.conj else 0
 odd:=decide (b=6)&&!s.odd
def qQ(t:zV)(s:xP)(r:Int):xP×Bool:=(Zy s (vK t r) (t.flg (rn r)).p (J0 t r),!s.some || yR s (vK t r) (t.flg (rn r)).p (J0 t r))
theorem Yb [Gi] {t:zV} {c b j f p:PV}(h:QS t c b j f p)(hz:Qg t)(ck cx sk sx:List PV)(s:xP)(r:Int)(hr:zB r):
  CR Tryz.prog 171 [] [.p (kx s),.p (zF c b j f p ck cx sk sx),.p (.int .i32 r)] [] (is (.tup [.p (kx (qQ t s r).1),.p (.bool (qQ t s r).2)])):=by
 refine zm mixed 14 [] Tryz.func171 rfl (by kernel_rfl) rfl (by simp) (by simp) ?_
 simp (maxSteps:=1000000) [go_sem,Tryz.f171,kx,zF]
 refine⟨⟨rfl,by simp[Tryz.f202]⟩,zb [] (K3 h ck cx sk sx hz hr) (by simp[go_sem]) ⟨by simp[go_sem],by simp[go_sem,zF]⟩ (by simp[go_sem]) ?_⟩
 rintro _ rs ⟨rfl,rfl⟩
 simp (maxSteps:=1000000) [go_sem]
 refine⟨⟨rfl,by simp[Tryz.f203]⟩,zb [] (zd6 h ck cx sk sx hz hr) (by simp[go_sem]) ⟨by simp[go_sem],by simp[go_sem,zF]⟩ (by simp[go_sem]) ?_⟩
 rintro _ rs ⟨rfl,rfl⟩
 simp (maxSteps:=1000000) [go_sem]
 refine⟨⟨rfl,by simp[Tryz.f204]⟩,zb [] (zeY h ck cx sk sx hz hr) (by simp[go_sem]) ⟨by simp[go_sem],by simp[go_sem,zF]⟩ (by simp[go_sem]) ?_⟩
 rintro _ rs ⟨rfl,rfl⟩
 simp (maxSteps:=1000000) [go_sem]
 have hres:qQ t s r=(Zy s (vK t r) (t.flg (rn r)).p (J0 t r),!s.some || yR s (vK t r) (t.flg (rn r)).p (J0 t r)):=rfl
 rw[hres]
 generalize vK t r=bk
 generalize (t.flg (rn r)).p=pi
 generalize J0 t r=cj
 refine⟨⟨rfl,by simp[Tryz.f205]⟩,zb [] (zi8 s.last bk) (by simp[go_sem]) ⟨by simp[go_sem],by simp[go_sem]⟩ (by simp[go_sem]) ?_⟩
 rintro _ rs ⟨rfl,rfl⟩
 refine zgc (fun _:Unit=>True) (fun _=>[(11,.p (.bool (yR s bk pi cj)))]) (fun _=>[]) ?_ ?_
 ·cases hst:zT s.last bk with
  |true=>
   simp (maxSteps:=1000000) [go_sem]
   try simp[yR,hst]
  |false=>
   by_cases hp:s.pict=2
   ·cases hpi:pi with
    |true=>
     simp (maxSteps:=1000000) [go_sem,hp]
     try simp[yR,hst,hp]
    |false=>
     by_cases hc:s.conj=2
     ·by_cases hc2:cj=2
      ·simp (maxSteps:=1000000) [go_sem,hp,hc,hc2]
       try simp[yR,hst,hp,hc]
      ·cases ho:s.odd with
       |false=>
        simp (maxSteps:=1000000) [go_sem,hp,hc,hc2]
        try simp[yR,hst,hp,hc,hc2,ho]
       |true=>
        by_cases hb:bk=6
        ·simp (maxSteps:=1000000) [go_sem,hp,hc,hc2,hb]
         try simp[yR,hp,hc,hc2,ho]
        ·simp (maxSteps:=1000000) [go_sem,hp,hc,hc2,hb]
         try simp[yR,hst,hp,hc,hc2,ho,hb]
     ·cases ho:s.odd with
      |false=>
       simp (maxSteps:=1000000) [go_sem,hp,hc]
       try simp[yR,hst,hp,hc,ho]
      |true=>
       by_cases hb:bk=6
       ·simp (maxSteps:=1000000) [go_sem,hp,hc,hb]
        try simp[yR,hp,hc,ho]
       ·simp (maxSteps:=1000000) [go_sem,hp,hc,hb]
        try simp[yR,hst,hp,hc,ho,hb]
   ·by_cases hc:s.conj=2
    ·by_cases hc2:cj=2
     ·simp (maxSteps:=1000000) [go_sem,hp,hc,hc2]
      try simp[yR,hst,hp,hc]
     ·cases ho:s.odd with
      |false=>
       simp (maxSteps:=1000000) [go_sem,hp,hc,hc2]
       try simp[yR,hst,hp,hc,hc2,ho]
      |true=>
       by_cases hb:bk=6
       ·simp (maxSteps:=1000000) [go_sem,hp,hc,hc2,hb]
        try simp[yR,hp,hc,hc2,ho]
       ·simp (maxSteps:=1000000) [go_sem,hp,hc,hc2,hb]
        try simp[yR,hst,hp,hc,hc2,ho,hb]
    ·cases ho:s.odd with
     |false=>
      simp (maxSteps:=1000000) [go_sem,hp,hc]
      try simp[yR,hst,hp,hc,ho]
     |true=>
      by_cases hb:bk=6
      ·simp (maxSteps:=1000000) [go_sem,hp,hc,hb]
       try simp[yR,hp,hc,ho]
      ·simp (maxSteps:=1000000) [go_sem,hp,hc,hb]
       try simp[yR,hst,hp,hc,ho,hb]
 ·rintro _ ts _
  simp only[zef]
  rw[zc9]
  refine KO (fun _:Unit=>True) (fun _=>[(12,.lp [12] 0)]) (fun _=>[([12],[.p (.bool true),.p (.int .i64 bk),.p (.int .i64 0),.p (.int .i64 0),.p (.bool (decide (bk=6)&&!s.odd))])]) ?_ ?_
  ·by_cases hb:bk=6
   ·cases ho:s.odd with
    |true=>
     simp (maxSteps:=1000000) [go_sem,hb]
     exact z6 () trivial (by simp[go_sem])
    |false=>
     simp (maxSteps:=1000000) [go_sem,hb]
     exact z6 () trivial (by simp[go_sem])
   ·simp (maxSteps:=1000000) [go_sem,hb]
    exact z6 () trivial (by simp[go_sem])
  ·rintro _ ts2 _
   rw[zc9]
   obtain⟨np,hnp⟩:∃np,np=(Zy s bk pi cj).pict:=⟨_,rfl⟩
   refine KO (fun _:Unit=>True) (fun _=>[]) (fun _=>[([12],[.p (.bool true),.p (.int .i64 bk),.p (.int .i64 np),.p (.int .i64 0),.p (.bool (decide (bk=6)&&!s.odd))])]) ?_ ?_
   ·cases hpi:pi with
    |true=>
     have e:np=1:=by rw[hnp];simp[Zy,hpi]
     simp (maxSteps:=1000000) [go_sem]
     exact z6 () trivial (by simp[go_sem,e])
    |false=>
     by_cases hp:s.pict=1
     ·by_cases hb4:bk=4
      ·have e:np=1:=by rw[hnp];simp[Zy,hpi,hp,hb4]
       simp (maxSteps:=1000000) [go_sem,hp,hb4]
       exact z6 () trivial (by simp[go_sem,e])
      ·by_cases hb5:bk=5
       ·have e:np=2:=by rw[hnp];simp[Zy,hpi,hp,hb5]
        simp (maxSteps:=1000000) [go_sem,hp,hb5]
        exact z6 () trivial (by simp[go_sem,e])
       ·have e:np=0:=by rw[hnp];simp[Zy,hpi,hp,hb4,hb5]
        simp (maxSteps:=1000000) [go_sem,hp,hb4,hb5]
        exact z6 () trivial (by simp[go_sem,e])
     ·have e:np=0:=by rw[hnp];simp[Zy,hpi,hp]
      simp (maxSteps:=1000000) [go_sem,hp]
      exact z6 () trivial (by simp[go_sem,e])
   ·rintro _ ts3 _
    rw[zc9]
    obtain⟨nc,hnc⟩:∃nc,nc=(Zy s bk pi cj).conj:=⟨_,rfl⟩
    refine KO (fun _:Unit=>True) (fun _=>[]) (fun _=>[([12],[.p (.bool true),.p (.int .i64 bk),.p (.int .i64 np),.p (.int .i64 nc),.p (.bool (decide (bk=6)&&!s.odd))])]) ?_ ?_
    ·by_cases hc:cj=2
     ·have e:nc=1:=by rw[hnc];simp[Zy,hc]
      simp (maxSteps:=1000000) [go_sem,hc]
      exact z6 () trivial (by simp[go_sem,e])
     ·by_cases hz0:s.conj=0
      ·have e:nc=0:=by rw[hnc];simp[Zy,hc,hz0]
       simp (maxSteps:=1000000) [go_sem,hc,hz0]
       exact z6 () trivial (by simp[go_sem,e])
      ·by_cases hc1:cj=1
       ·have e:nc=2:=by rw[hnc];simp[Zy,hz0,hc1]
        simp (maxSteps:=1000000) [go_sem,hz0,hc1]
        exact z6 () trivial (by simp[go_sem,e])
       ·by_cases hc3:cj=3
        ·have e:nc=s.conj:=by rw[hnc];simp[Zy,hz0,hc3]
         simp (maxSteps:=1000000) [go_sem,hz0,hc3]
         exact z6 () trivial (by simp[go_sem,e])
        ·have e:nc=0:=by rw[hnc];simp[Zy,hc,hz0,hc1,hc3]
         simp (maxSteps:=1000000) [go_sem,hc,hz0,hc1,hc3]
         exact z6 () trivial (by simp[go_sem,e])
    ·rintro _ ts4 _
     have hno:(Zy s bk pi cj).odd=(decide (bk=6)&&!s.odd):=rfl
     have hns:(Zy s bk pi cj).some=true:=rfl
     have hnl:(Zy s bk pi cj).last=bk:=rfl
     cases hso:s.some with
     |true=>
      simp (maxSteps:=1000000) [go_sem]
      exact zh (.tup [.p (kx (Zy s bk pi cj)),.p (.bool (!s.some || yR s bk pi cj))]) rfl (by simp[go_sem,zd,leA,leT,leP,kx,hso,hno,hns,hnl,←hnp,←hnc]) ⟨rfl,by simp[kx,hso]⟩
     |false=>
      simp (maxSteps:=1000000) [go_sem]
      exact zh (.tup [.p (kx (Zy s bk pi cj)),.p (.bool (!s.some || yR s bk pi cj))]) rfl (by simp[go_sem,zd,leA,leT,leP,kx,hso,hno,hns,hnl,←hnp,←hnc]) ⟨rfl,by simp[kx,hso]⟩
end Go.Proofs.YtjefahhmkcfiiaaGreat
end
section
namespace Go.Proofs.YtjefahhmkcfiiaaGreat
open Go.AM
set_option maxHeartbeats 4000000
set_option maxRecDepth 10000
def zx(M:List Int):List AV:=(M.map fun r=>PV.int .i32 r).map .p
@[go_sem] theorem zol (rt tt : Tok → Bool) (M : List Int) : (zx M).map (AV.upd (fil rt tt)) = zx M := by simp [zx, AV.upd, fil, Q3]
@[go_sem] theorem zoi (f : Tok → Option Tok) (M : List Int) : (zx M).map (AV.ren f) = zx M := by rw [zx, List.map_map, zp1]
@[go_sem] theorem Vl (M : List Int) : (zx M).length = M.length := by simp [zx]
theorem XD {M:List Int} {i:Nat}(h:i<M.length):(zx M)[i]?=some (.p (.int .i32 (M[i]?.getD 0))):=by
 simp[zx,List.getElem?_eq_getElem h]
theorem ZA {M:List Int} {i:Nat}(v:Int)(h:i<M.length):(zx M).take i++AV.p (.int .i32 v)::(zx M).drop (i+1)=zx (M.set i v):=by
 have:zx (M.set i v)=(zx M).set i (.p (.int .i32 v)):=by simp[zx,List.map_set]
 rw[this,List.set_eq_take_append_cons_drop,if_pos (by simpa[zx]using h)]
def swapAt(M:List Int)(i j:Nat):List Int:=(M.set i (M[j]?.getD 0)).set j (M[i]?.getD 0)
def yw(M:List Int)(a b:Nat):Nat→List Int
 |0=>M
 |n+1=>swapAt (yw M a b n) (a+n) (b+n)
theorem KX(M:List Int)(a b:Nat):∀n,(yw M a b n).length=M.length
 |0=>rfl
 |n+1=>by simp[yw,swapAt,KX M a b n]
def swapT:OT:=.now 0 0 (.now 1 0 (.now 2 0 (.now 3 0 (.now 4 2 (.now 5 2 (.now 6 2 (.now 7 2 (.now 8 0 (.now 9 0 (.now 10 0 (.now 11 0 (.now 12 0 (.now 13 0 (.now 14 0 (.now 15 0 (.now 16 0 (.now 17 0 (.now 18 0 (.now 19 0 (.now 20 0 (.mk [(21,.now 22 0 (.mk [(23,.mk [])]))])))))))))))))))))))))
def j8:AV:=.fn 211 [.lp [1] 0]
theorem vw [Gi](M:List Int)(tab:PV)(o n a b m:Nat)(hM:o+n≤M.length)(ha:a+m≤n)(hb:b+m≤n)(hn:M.length<2^40):
  CR Tryz.prog 239 [[0],[1]] [.la [0] 1 o n,.p (.int .i64 a),.p (.int .i64 b),.p (.int .i64 m),j8] [([0],zx M),([1],[.p tab])] (fun x rs=>x=.tup []∧rs=[([0],zx (yw M (o+a) (o+b) m)),([1],[.p tab])]):=by
 refine zS [200003] mixed 11 [] Tryz.func239 rfl (by kernel_rfl) rfl (by simp) (by simp) ?_
 simp (maxSteps:=1000000) [go_sem,Tryz.f239,j8]
 refine zj (fun i:Nat=>i≤m) (fun i=>[(10,.p (.int .i64 (i:Nat)))]) (fun i=>[([0],zx (yw M (o+a) (o+b) i))]) (fun i=>m-i) 0 (by omega) (by simp[go_sem,LeS,leV,leR,leA,leL,zn,yw]) (fun i hi=>?_)
 simp (maxSteps:=1000000) [go_sem]
 refine zA (fun h=>?_) (fun h=>?_)
 ·have him:i<m:=by omega
  have w1:IntKind.i64.wrap ((i:Int)+1)=((i+1:Nat):Int):=by rw[wrap64 (by omega) (by omega)];rfl
  obtain⟨x,hx⟩:∃x,x=a+i:=⟨_,rfl⟩
  obtain⟨y,hy⟩:∃y,y=b+i:=⟨_,rfl⟩
  have w2:IntKind.i64.wrap ((a:Int)+i)=(x:Int):=by rw[wrap64 (by omega) (by omega)];omega
  have w3:IntKind.i64.wrap ((b:Int)+i)=(y:Int):=by rw[wrap64 (by omega) (by omega)];omega
  have hs:=KX M (o+a) (o+b) i
  have hnext:yw M (o+a) (o+b) (i+1)=swapAt (yw M (o+a) (o+b) i) (o+x) (o+y):=by rw[hx,hy,←Nat.add_assoc,←Nat.add_assoc];rfl
  generalize yw M (o+a) (o+b) i=Mi at hs hnext
  have hxn:x<n:=by omega
  have hyn:y<n:=by omega
  have gx:=XD (M:=Mi) (i:=o+x) (by omega)
  have gy:=XD (M:=Mi) (i:=o+y) (by omega)
  have px:=ZA (M:=Mi) (i:=o+x) (Mi[o+y]?.getD 0) (by omega)
  have py:=ZA (M:=Mi.set (o+x) (Mi[o+y]?.getD 0)) (i:=o+y) (Mi[o+x]?.getD 0) (by simp;omega)
  simp (maxSteps:=1000000) [go_sem]
  refine Zq swapT (by kernel_rfl) ?_
  simp (maxSteps:=1000000) [go_sem,swapT,w1,w2,w3,hxn,hyn,gx,gy,px,py]
  exact⟨by omega,by omega,zf (i+1) (by omega) (by simp[go_sem,LeS,leV,leR,leA,leL,zn,hnext,swapAt]) (by omega)⟩
 ·obtain rfl:i=m:=by omega
  simp (maxSteps:=1000000) [go_sem]
  exact zi [[0],[1]] (.tup []) ⟨rfl,by simp⟩ (by simp[go_sem,zd,leT]) ⟨rfl,by simp[go_sem]⟩
theorem zaZ(M:List Int)(a b:Nat):∀n,a+n≤b→b+n≤M.length→∀k,(yw M a b n)[k]?=if a≤k∧k<a+n then M[k-a+b]? else if b≤k∧k<b+n then M[k-b+a]? else M[k]?
 |0,_,_,k=>by
  rw[if_neg (by omega),if_neg (by omega)];rfl
 |n+1,h1,h2,k=>by
  have ih:=zaZ M a b n (by omega) (by omega)
  have hl:=KX M a b n
  have e1:(yw M a b n)[a+n]?=M[a+n]?:=by rw[ih,if_neg (by omega),if_neg (by omega)]
  have e2:(yw M a b n)[b+n]?=M[b+n]?:=by rw[ih,if_neg (by omega),if_neg (by omega)]
  simp only[yw,swapAt,e1,e2]
  have g1:M[a+n]?=some (M[a+n]?.getD 0):=by rw[List.getElem?_eq_getElem (by omega)];rfl
  have g2:M[b+n]?=some (M[b+n]?.getD 0):=by rw[List.getElem?_eq_getElem (by omega)];rfl
  rw[List.getElem?_set,List.getElem?_set]
  by_cases hk1:b+n=k
  ·subst hk1
   rw[if_pos rfl,if_pos (by simp;omega),if_neg (by omega),if_pos (by omega)]
   rw[←g1];congr 1;omega
  ·rw[if_neg hk1]
   by_cases hk2:a+n=k
   ·subst hk2
    rw[if_pos rfl,if_pos (by omega),if_pos (by omega)]
    rw[←g2];congr 1;omega
   ·rw[if_neg hk2,ih]
    by_cases c1:a≤k∧k<a+n
    ·rw[if_pos c1,if_pos (by omega)]
    ·rw[if_neg c1,if_neg (by omega:¬(a≤k∧k<a+(n+1)))]
     by_cases c2:b≤k∧k<b+n
     ·rw[if_pos c2,if_pos (by omega)]
     ·rw[if_neg c2,if_neg (by omega)]
end Go.Proofs.YtjefahhmkcfiiaaGreat
end
section
namespace Go.Proofs.YtjefahhmkcfiiaaGreat
open Go.AM
set_option maxHeartbeats 4000000
set_option maxRecDepth 10000
theorem vG(P X Y Z W:List Int)(h:X.length=Z.length):yw (P++(X++(Y++(Z++W)))) P.length (P.length+X.length+Y.length) X.length=P++(Z++(Y++(X++W))):=by
 apply List.ext_getElem?
 intro k
 rw[zaZ _ _ _ _ (by omega) (by simp;omega)]
 simp only[List.getElem?_append]
 by_cases h1:k<P.length
 ·rw[if_neg (by omega),if_neg (by omega),if_pos h1,if_pos h1]
 ·by_cases h2:k<P.length+X.length
  ·rw[if_pos (by omega),if_neg (by omega),if_neg (by omega),if_neg (by omega),if_pos (by omega),if_neg (by omega),if_pos (by omega)]
   congr 1;omega
  ·by_cases h3:k<P.length+X.length+Y.length
   ·rw[if_neg (by omega),if_neg (by omega),if_neg (by omega),if_neg (by omega),if_pos (by omega),if_neg (by omega),if_neg (by omega),if_pos (by omega)]
    congr 1;omega
   ·by_cases h4:k<P.length+X.length+Y.length+X.length
    ·rw[if_neg (by omega),if_pos (by omega),if_neg (by omega),if_pos (by omega),if_neg (by omega),if_neg (by omega),if_neg (by omega),if_pos (by omega)]
     congr 1;omega
    ·rw[if_neg (by omega),if_neg (by omega),if_neg (by omega),if_neg (by omega),if_neg (by omega),if_neg (by omega),if_neg (by omega),if_neg (by omega),if_neg (by omega),if_neg (by omega)]
     congr 1;omega
theorem ziV [Gi](P U V S:List Int)(tab:PV)(o n a m b:Nat)(hP:P.length=o+a)(hU:U.length=m-a)(hV:V.length=b-m)(ham:a<m)(hmb:m<b)(hbn:b≤n)(hn:(P++(U++(V++S))).length<2^40)(hS:o+n≤(P++(U++(V++S))).length):
  CR Tryz.prog 238 [[0],[1]] [.la [0] 1 o n,.p (.int .i64 a),.p (.int .i64 m),.p (.int .i64 b),j8] [([0],zx (P++(U++(V++S)))),([1],[.p tab])] (fun x rs=>x=.tup []∧rs=[([0],zx (P++(V++(U++S)))),([1],[.p tab])]):=by
 refine zm mixed 12 [] Tryz.func238 rfl (by kernel_rfl) rfl (by simp) (by simp) ?_
 have w1:IntKind.i64.wrap ((m:Int)-a)=((m-a:Nat):Int):=by rw[wrap64 (by simp at hS hn;omega) (by simp at hS hn;omega)];omega
 have w2:IntKind.i64.wrap ((b:Int)-m)=((b-m:Nat):Int):=by rw[wrap64 (by simp at hS hn;omega) (by simp at hS hn;omega)];omega
 simp (maxSteps:=1000000) [go_sem,Tryz.f238,w1,w2,j8]
 have hlen:(P++(U++(V++S))).length=P.length+U.length+V.length+S.length:=by simp;omega
 rw[hlen]at hn hS
 refine zj (fun r:List Int×List Int×List Int×List Int=>r.1.length+r.2.1.length=o+m∧0<r.2.1.length∧0<r.2.2.1.length∧r.2.1.length≤m∧m+r.2.2.1.length≤n∧r.1.length+r.2.1.length+r.2.2.1.length+r.2.2.2.length=P.length+U.length+V.length+S.length∧r.1++(r.2.2.1++(r.2.1++r.2.2.2))=P++(V++(U++S)))
  (fun r=>[(10,.p (.int .i64 (r.2.1.length:Nat))),(11,.p (.int .i64 (r.2.2.1.length:Nat)))]) (fun r=>[([0],zx (r.1++(r.2.1++(r.2.2.1++r.2.2.2))))]) (fun r=>r.2.1.length+r.2.2.1.length) (P,U,V,S) ⟨by simp only;omega,by simp only;omega,by simp only;omega,by simp only;omega,by simp only;omega,rfl,rfl⟩ (by simp[go_sem,LeS,leV,leR,leA,leL,zn,hU,hV]) (fun r hr=>?_)
 obtain⟨P',U',V',S'⟩:=r
 obtain⟨q1,q2,q3,q4,q5,q6,q7⟩:=hr
 simp only at q1 q2 q3 q4 q5 q6 q7
 have hM:(P'++(U'++(V'++S'))).length=P.length+U.length+V.length+S.length:=by simp;omega
 obtain⟨i,hi⟩:∃i,i=U'.length:=⟨_,rfl⟩
 obtain⟨j,hj⟩:∃j,j=V'.length:=⟨_,rfl⟩
 rw[←hi]at q1 q2 q4 q6
 rw[←hj]at q3 q5 q6
 have w3:IntKind.i64.wrap ((m:Int)-i)=((m-i:Nat):Int):=by rw[wrap64 (by omega) (by omega)];omega
 have w4:IntKind.i64.wrap ((m:Int)+j)=((m+j:Nat):Int):=by rw[wrap64 (by omega) (by omega)];omega
 have w5:j<i→IntKind.i64.wrap ((i:Int)-j)=((i-j:Nat):Int):=fun h=>by rw[wrap64 (by omega) (by omega)];omega
 have w6:i<j→IntKind.i64.wrap ((j:Int)-i)=((j-i:Nat):Int):=fun h=>by rw[wrap64 (by omega) (by omega)];omega
 have w7:i<j→IntKind.i64.wrap ((m:Int)+j-i)=((m+j-i:Nat):Int):=fun h=>by rw[wrap64 (by omega) (by omega)];omega
 simp only[←hi,←hj]
 simp (maxSteps:=1000000) [go_sem]
 refine wX (fun h=>?_) (fun h=>?_)
 ·have hij:i≠j:=fun e=>by simp[e]at h
  simp (maxSteps:=1000000) [go_sem]
  refine zA (fun h2=>?_) (fun h2=>?_)
  ·have hji:j<i:=by omega
   have w5':=w5 hji
   simp (maxSteps:=1000000) [go_sem,w3]
   refine⟨⟨rfl,by simp[Tryz.f239]⟩,zb [([0],[0]),([1],[1])] (vw (P'++(U'++(V'++S'))) tab o n (m-i) (m) j (by omega) (by omega) (by omega) (by omega)) (by simp[go_sem,zH]) ⟨by simp[go_sem],by simp[go_sem,j8]⟩ (by simp[go_sem]) ?_⟩
   rintro _ _ ⟨rfl,rfl⟩
   obtain⟨U1,U2,rfl,hu⟩:∃U1 U2,U'=U1++U2∧U1.length=j:=⟨U'.take j,U'.drop j,(List.take_append_drop _ _).symm,by simp;omega⟩
   have hu2:U2.length=i-j:=by simp at hi;omega
   have hsw:yw (P'++(U1++U2++(V'++S'))) (o+(m-i)) (o+m) j=(P'++V')++(U2++(U1++S')):=by
    have e:=vG P' U1 U2 V' S' (by omega)
    have e1:o+(m-i)=P'.length:=by omega
    have e2:o+m=P'.length+U1.length+U2.length:=by omega
    rw[e1,e2,←hu]
    simp only[List.append_assoc]at e⊢
    exact e
   rw[hsw]
   simp (maxSteps:=1000000) [go_sem,w5']
   refine zf (P'++V',U2,U1,S') ⟨by simp;omega,by simp only;omega,by simp only;omega,by simp only;omega,by simp only;omega,by simp;omega,by rw[←q7];simp⟩ (by simp[go_sem,LeS,leV,leR,leA,leL,zn,hu,hu2]) (by simp only[List.length_append];omega)
  ·have hji:i<j:=by omega
   have w6':=w6 hji
   have w7':=w7 hji
   simp (maxSteps:=1000000) [go_sem,w3,w4,w7']
   refine⟨⟨rfl,by simp[Tryz.f239]⟩,zb [([0],[0]),([1],[1])] (vw (P'++(U'++(V'++S'))) tab o n (m-i) (m+j-i) i (by omega) (by omega) (by omega) (by omega)) (by simp[go_sem,zH]) ⟨by simp[go_sem],by simp[go_sem,j8]⟩ (by simp[go_sem]) ?_⟩
   rintro _ _ ⟨rfl,rfl⟩
   obtain⟨V1,V2,rfl,hv⟩:∃V1 V2,V'=V1++V2∧V1.length=j-i:=⟨V'.take (j-i),V'.drop (j-i),(List.take_append_drop _ _).symm,by simp;omega⟩
   have hv2:V2.length=i:=by simp at hj;omega
   have hsw:yw (P'++(U'++(V1++V2++S'))) (o+(m-i)) (o+(m+j-i)) i=P'++(V2++(V1++(U'++S'))):=by
    have e:=vG P' U' V1 V2 S' (by omega)
    have e1:o+(m-i)=P'.length:=by omega
    have e2:o+(m+j-i)=P'.length+U'.length+V1.length:=by omega
    rw[e1,e2,hi]
    simp only[List.append_assoc]at e⊢
    exact e
   rw[hsw]
   simp (maxSteps:=1000000) [go_sem,w6']
   refine zf (P',V2,V1,U'++S') ⟨by simp only;omega,by simp only;omega,by simp only;omega,by simp only;omega,by simp only;omega,by simp;omega,by rw[←q7];simp⟩ (by simp[go_sem,LeS,leV,leR,leA,leL,zn,hv,hv2]) (by simp only;omega)
 ·have hij:i=j:=by
   have:(i:Int)=j:=by simpa using h
   omega
  simp (maxSteps:=1000000) [go_sem,w3]
  refine⟨⟨rfl,by simp[Tryz.f239]⟩,zb [([0],[0]),([1],[1])] (vw (P'++(U'++(V'++S'))) tab o n (m-i) (m) i (by omega) (by omega) (by omega) (by omega)) (by simp[go_sem,zH]) ⟨by simp[go_sem],by simp[go_sem,j8]⟩ (by simp[go_sem]) ?_⟩
  rintro _ _ ⟨rfl,rfl⟩
  have hsw:yw (P'++(U'++(V'++S'))) (o+(m-i)) (o+m) i=P'++(V'++(U'++S')):=by
   have e:=vG P' U' [] V' S' (by omega)
   have e1:o+(m-i)=P'.length:=by omega
   have e2:o+m=P'.length+U'.length+([]:List Int).length:=by simp;omega
   rw[e1,e2,hi]
   exact e
  rw[hsw,q7]
  simp (maxSteps:=1000000) [go_sem]
  exact zi [[0],[1]] (.tup []) ⟨rfl,by simp⟩ (by simp[go_sem,zd,leT]) ⟨rfl,by simp[go_sem]⟩
end Go.Proofs.YtjefahhmkcfiiaaGreat
end
