/- A part of the proof of this seat's statements, by an abstract machine: what each operation does to values, and what the law's functions compute. Conditions: as each law says. -/
import Derived.Test.YtcgfdhdcihmeeaaGreatT24
section
namespace Go.Proofs.YtcgfdhdcihmeeaaGreat
open Go.AM
set_option maxHeartbeats 4000000
set_option maxRecDepth 100000
def chainB:List Span→Bool
 | []=>true
 | [s]=>decide (s.f≤s.t)
 |s::x::l=>decide (s.f≤s.t)&&decide (s.t<x.f)&&chainB (x::l)
theorem xF:∀l:List Span,chainB l=true→qH l
 | [],_=>trivial
 | [s],h=>⟨by simpa[chainB]using h,by simp,trivial⟩
 |s::x::l,h=>by
  simp only[chainB,Bool.and_eq_true,decide_eq_true_eq]at h
  obtain⟨⟨h1,h2⟩,h3⟩:=h
  have ih:=xF (x::l) h3
  refine⟨h1,fun y hy=>?_,ih⟩
  rcases List.mem_cons.1 hy with rfl|hy
  ·exact h2
  ·have:=ih.2.1 y hy
   have:=ih.1
   omega
def ub(l:List Row)(k:Int):Bool:=
 chainB (zH l k)&&(zH l k).all (fun s=>decide (-1000000000≤s.t)&&decide (s.t≤1000000000))&&decide ((zH l k).length<256)&&
 chainB (qd l k)&&(qd l k).all (fun s=>decide (0≤s.f)&&decide (s.t≤1114111))&&decide ((qd l k).length<256)
theorem ju {l:List Row} {k:Int}(h:ub l k=true):Zi l k:=by
 simp only[ub,Bool.and_eq_true,decide_eq_true_eq,List.all_eq_true]at h
 obtain⟨⟨⟨⟨⟨h1,h2⟩,h3⟩,h4⟩,h5⟩,h6⟩:=h
 exact⟨xF _ h1,h2,h3,xF _ h4,h5,h6⟩
def zhN(l:List Row):Bool:=(qd l 2).all fun s=>decide (0≤s.a)&&decide (s.a<1114112)&&decide (0≤s.b)&&decide (s.b<1114112)
theorem zoC:ub za 1=true:=by decide+kernel
theorem zou:ub za 2=true:=by decide+kernel
theorem zot:ub za 3=true:=by decide+kernel
theorem zoI:ub za 4=true:=by decide+kernel
theorem zoG:ub za 5=true:=by decide+kernel
theorem zoH:ub za 6=true:=by decide+kernel
theorem znr:ub za 7=true:=by decide+kernel
theorem zoL:ub za 8=true:=by decide+kernel
theorem zoP:zhN za=true:=by decide+kernel
theorem znn:za.length<2^31:=by decide+kernel
def T0:qV:=qL za
def M0:List (Q6×Int)×List Int:=made za
def yA(x:PV):Prop:=∃c b j f p,WO T0 c b j f p∧x=jE c b j f p (ckP M0.1) (cxP M0.1) (QD M0.2) (qq M0.2)
theorem zgI [Gi]:CR Tryz.prog 7 [] [.p (zU za)] [] (fun x rs=>rs=[]∧∃e,x=.p e∧yA e):=by
 have hp:∀s∈qd za 2,0≤s.a∧s.a<1114112∧0≤s.b∧s.b<1114112:=by
  have:=zoP
  simp only[zhN,Bool.and_eq_true,decide_eq_true_eq,List.all_eq_true]at this
  exact fun s hs=>⟨(this s hs).1.1.1,(this s hs).1.1.2,(this s hs).1.2,(this s hs).2⟩
 intro w g vs h1 h2
 refine(zhJ za znn (ju zoC) (ju zou) (ju zot) (ju zoI) (ju zoG) (ju zoH) (ju znr) (ju zoL) hp w g vs h1 h2).mono ?_
 rintro e w' ⟨v,x,rs',g',h3,⟨rfl,c,b,j,f,p,hT,rfl⟩,h4⟩
 exact⟨v,_,_,g',h3,⟨rfl,_,rfl,c,b,j,f,p,hT,rfl⟩,h4⟩
end Go.Proofs.YtcgfdhdcihmeeaaGreat
end
section
namespace Go.Proofs.YtcgfdhdcihmeeaaGreat
open Go.AM
set_option maxHeartbeats 4000000
set_option maxRecDepth 10000
def rn(x:Int):Nat:=if 0≤x∧x<1114112 then x.toNat else 1114112
theorem YO {x:Int}(h:0≤x∧x<1114112):rn x=x.toNat:=if_pos h
theorem Vv {x:Int}(h:¬(0≤x∧x<1114112)):rn x=1114112:=if_neg h
structure Uo(t:qV):Prop where
 c:t.cls 1114112=0
 b:t.brk 1114112=0
 j:t.cnj 1114112=0
 f:t.flg 1114112=⟨false,false,false,false⟩
 p:t.par 1114112=⟨0,0⟩
theorem xS:Uo T0:=⟨by decide+kernel,by decide+kernel,by decide+kernel,by decide+kernel,by decide+kernel⟩
theorem VR [Gi] {val:Nat→Int} {e:PV}(h:ku 1 1114112 (fun j=>[.int .i64 (val j)]) e)(hz:val 1114112=0)(i:Int):CR Tryz.prog 94 [] [.p e,.p (.int .i64 i)] [] (is (.p (.int .i64 (val (rn i))))):=by
 by_cases hi:0≤i∧i<1114112
 ·rw[YO hi]
  have e1:((i.toNat:Nat):Int)=i:=by omega
  have:=YC h (by omega) (i:=i.toNat) (by omega)
  rw[e1]at this
  exact this
 ·rw[Vv hi,hz]
  obtain⟨idx,blocks,rfl,_⟩:=h
  refine zR [] mixed 6 [] Tryz.func94 rfl (by kernel_rfl) rfl (by simp) (by simp) ?_
  by_cases h0:i<0
  ·simp[go_sem,Tryz.f94,Qm,h0]
   exact zh (.p (.int .i64 0)) rfl (by simp[go_sem,zf,leA,leT]) ⟨rfl,rfl⟩
  ·have h1:(1114112:Int)≤i:=by omega
   simp[go_sem,Tryz.f94,Qm,h0,h1]
   exact zh (.p (.int .i64 0)) rfl (by simp[go_sem,zf,leA,leT]) ⟨rfl,rfl⟩
theorem YV [Gi] {val:Nat→Flags} {e:PV}(h:ku 4 1114112 (fun j=>qm (val j)) e)(hz:val 1114112=⟨false,false,false,false⟩)(i:Int):CR Tryz.prog 62 [] [.p e,.p (.int .i64 i)] [] (is (.p (.agg (qm (val (rn i)))))):=by
 by_cases hi:0≤i∧i<1114112
 ·rw[YO hi]
  have e1:((i.toNat:Nat):Int)=i:=by omega
  have:=Xe h (by omega) (i:=i.toNat) (by omega)
  rw[e1]at this
  exact this
 ·rw[Vv hi,hz]
  obtain⟨idx,blocks,rfl,_⟩:=h
  refine zR [] mixed 6 [] Tryz.func62 rfl (by kernel_rfl) rfl (by simp) (by simp) ?_
  by_cases h0:i<0
  ·simp[go_sem,Tryz.f62,Qm,h0]
   exact zh (.p (.agg [.bool false,.bool false,.bool false,.bool false])) rfl (by simp[go_sem,zf,leA,leT]) ⟨rfl,rfl⟩
  ·have h1:(1114112:Int)≤i:=by omega
   simp[go_sem,Tryz.f62,Qm,h0,h1]
   exact zh (.p (.agg [.bool false,.bool false,.bool false,.bool false])) rfl (by simp[go_sem,zf,leA,leT]) ⟨rfl,rfl⟩
def xX(t:qV)(i:Int):Int:=if 44032≤i∧i≤55203 then(if(i-44032)%28=0 then 12 else 13)else t.brk (rn i)
def UR(t:qV)(i:Int):Int:=if t.cnj (rn i)≠0 then t.cnj (rn i)else if(xX t i=4∨xX t i=5)∧i≠8204 then 3 else 0
theorem zcm [Gi] {t:qV} {c b j f p:PV}(h:WO t c b j f p)(ck cx sk sx:List PV)(hz:Uo t) {i:Int}(hi: -2147483648≤i∧i<2147483648):
  CR Tryz.prog 132 [] [.p (jE c b j f p ck cx sk sx),.p (.int .i32 i)] [] (is (.p (.bool (t.flg (rn i)).p))):=by
 have w1:IntKind.i64.wrap i=i:=wrap64 (by omega) (by omega)
 refine zC mixed 5 [] Tryz.func132 rfl (by kernel_rfl) rfl (by simp) (by simp) ?_
 simp (maxSteps:=1000000) [go_sem,Tryz.f132,jE,w1]
 refine⟨⟨rfl,by simp[Tryz.f62]⟩,zd [] (YV h.f hz.f i) (by simp[go_sem]) ⟨by simp[go_sem],by simp[go_sem]⟩ (by simp[go_sem]) ?_⟩
 rintro _ rs ⟨rfl,rfl⟩
 generalize t.flg (rn i)=q
 simp (maxSteps:=1000000) [go_sem,qm]
 exact zh (.p (.bool q.p)) rfl (by simp[go_sem,zf,leA,leT]) ⟨rfl,rfl⟩
theorem Vy [Gi] {t:qV} {c b j f p:PV}(h:WO t c b j f p)(ck cx sk sx:List PV)(hz:Uo t) {i:Int}(hi: -2147483648≤i∧i<2147483648):
  CR Tryz.prog 128 [] [.p (jE c b j f p ck cx sk sx),.p (.int .i32 i)] [] (is (.p (.int .i64 (xX t i)))):=by
 have w1:IntKind.i64.wrap i=i:=wrap64 (by omega) (by omega)
 refine zC mixed 6 [] Tryz.func128 rfl (by kernel_rfl) rfl (by simp) (by simp) ?_
 have hB:44032≤i→i≤55203→(i-44032).tmod 28=(i-44032)%28:=fun h1 _=>Int.tmod_eq_emod_of_nonneg (by omega)
 have w2:44032≤i→IntKind.i32.wrap (i-44032)=i-44032:=fun _=>by simp[IntKind.wrap,IntKind.signed,IntKind.bits];omega
 by_cases h1:44032≤i∧i≤55203
 ·have a1:(44032:Int)≤i:=by omega
  have a2:i≤55203:=by omega
  have a3:=hB h1.1 h1.2
  have w3:=w2 h1.1
  generalize hm:(i-44032)%28=m at a3
  by_cases h2:m=0
  ·subst h2
   have e:xX t i=12:=by unfold xX;rw[if_pos h1,if_pos hm]
   rw[e]
   simp (maxSteps:=1000000) [go_sem,Tryz.f128,jE,w3,a1,a2,a3]
   exact zh (.p (.int .i64 12)) rfl (by simp[go_sem,zf,leA,leT]) ⟨rfl,rfl⟩
  ·have e:xX t i=13:=by unfold xX;rw[if_pos h1,if_neg (by omega)]
   rw[e]
   simp (maxSteps:=1000000) [go_sem,Tryz.f128,jE,w3,a1,a2,a3,h2]
   exact zh (.p (.int .i64 13)) rfl (by simp[go_sem,zf,leA,leT]) ⟨rfl,rfl⟩
 ·have e:xX t i=t.brk (rn i):=by unfold xX;rw[if_neg h1]
  rw[e]
  by_cases a1:(44032:Int)≤i
  ·have a2:¬(i≤55203):=by omega
   simp (maxSteps:=1000000) [go_sem,Tryz.f128,jE,w1,a1,a2]
   refine⟨⟨rfl,by simp[Tryz.f94]⟩,zd [] (VR h.b hz.b i) (by simp[go_sem]) ⟨by simp[go_sem],by simp[go_sem]⟩ (by simp[go_sem]) ?_⟩
   rintro _ rs ⟨rfl,rfl⟩
   simp (maxSteps:=1000000) [go_sem]
   exact zh (.p (.int .i64 (t.brk (rn i)))) rfl (by simp[go_sem,zf,leA,leT]) ⟨rfl,rfl⟩
  ·simp (maxSteps:=1000000) [go_sem,Tryz.f128,jE,w1,a1]
   refine⟨⟨rfl,by simp[Tryz.f94]⟩,zd [] (VR h.b hz.b i) (by simp[go_sem]) ⟨by simp[go_sem],by simp[go_sem]⟩ (by simp[go_sem]) ?_⟩
   rintro _ rs ⟨rfl,rfl⟩
   simp (maxSteps:=1000000) [go_sem]
   exact zh (.p (.int .i64 (t.brk (rn i)))) rfl (by simp[go_sem,zf,leA,leT]) ⟨rfl,rfl⟩
theorem zh1 [Gi] {t:qV} {c b j f p:PV}(h:WO t c b j f p)(ck cx sk sx:List PV)(hz:Uo t) {i:Int}(hi: -2147483648≤i∧i<2147483648):
  CR Tryz.prog 133 [] [.p (jE c b j f p ck cx sk sx),.p (.int .i32 i)] [] (is (.p (.int .i64 (UR t i)))):=by
 have w1:IntKind.i64.wrap i=i:=wrap64 (by omega) (by omega)
 refine zC mixed 7 [] Tryz.func133 rfl (by kernel_rfl) rfl (by simp) (by simp) ?_
 simp (maxSteps:=1000000) [go_sem,Tryz.f133,jE,w1]
 refine⟨⟨rfl,by simp[Tryz.f94]⟩,zd [] (VR h.j hz.j i) (by simp[go_sem]) ⟨by simp[go_sem],by simp[go_sem]⟩ (by simp[go_sem]) ?_⟩
 rintro _ rs ⟨rfl,rfl⟩
 simp (maxSteps:=1000000) [go_sem]
 by_cases h1:t.cnj (rn i)=0
 ·simp (maxSteps:=1000000) [go_sem,h1]
  refine⟨⟨rfl,by simp[Tryz.f128]⟩,zd [] (Vy h ck cx sk sx hz hi) (by simp[go_sem]) ⟨by simp[go_sem],by simp[go_sem,jE]⟩ (by simp[go_sem]) ?_⟩
  rintro _ rs ⟨rfl,rfl⟩
  have e:UR t i=if(xX t i=4∨xX t i=5)∧i≠8204 then 3 else 0:=by unfold UR;rw[if_neg (fun h=>h h1)]
  rw[e]
  generalize xX t i=v
  by_cases h2:(v=4∨v=5)∧i≠8204
  ·rw[if_pos h2]
   have h3:¬(i=8204):=by omega
   rcases h2.1 with rfl|rfl
   ·simp (maxSteps:=1000000) [go_sem,h3]
    exact zh (.p (.int .i64 3)) rfl (by simp[go_sem,zf,leA,leT]) ⟨rfl,rfl⟩
   ·simp (maxSteps:=1000000) [go_sem,h3]
    exact zh (.p (.int .i64 3)) rfl (by simp[go_sem,zf,leA,leT]) ⟨rfl,rfl⟩
  ·rw[if_neg h2]
   by_cases h4:v=4
   ·have h3:i=8204:=by omega
    simp (maxSteps:=1000000) [go_sem,h4,h3]
    exact zh (.p (.int .i64 0)) rfl (by simp[go_sem,zf,leA,leT]) ⟨rfl,rfl⟩
   ·by_cases h5:v=5
    ·have h3:i=8204:=by omega
     simp (maxSteps:=1000000) [go_sem,h5,h3]
     exact zh (.p (.int .i64 0)) rfl (by simp[go_sem,zf,leA,leT]) ⟨rfl,rfl⟩
    ·simp (maxSteps:=1000000) [go_sem,h4,h5]
     exact zh (.p (.int .i64 0)) rfl (by simp[go_sem,zf,leA,leT]) ⟨rfl,rfl⟩
 ·have e:UR t i=t.cnj (rn i):=by unfold UR;rw[if_pos h1]
  rw[e]
  simp (maxSteps:=1000000) [go_sem,h1]
  exact zh (.p (.int .i64 (t.cnj (rn i)))) rfl (by simp[go_sem,zf,leA,leT]) ⟨rfl,rfl⟩
end Go.Proofs.YtcgfdhdcihmeeaaGreat
end
