/- A part of the proof of this seat's statements, by an abstract machine: what each operation does to values, and what the law's functions compute. Conditions: as each law says. -/
import Derived.Test.YtcgfdhdcihmeeaaGreatT18
import Derived.Test.YtcgfdhdcihmeeaaGreatT17
section
namespace Go.Proofs.YtcgfdhdcihmeeaaGreat
open Go.AM
set_option maxHeartbeats 4000000
set_option maxRecDepth 10000
def zx(l:List Row)(i:Int):Int:=if 44032≤i∧i≤55203 then(if(i-44032)%28=0 then 12 else 13)else aL l 4 i
def ZR(l:List Row)(i:Int):Int:=if aL l 6 i≠0 then aL l 6 i else if(zx l i=4∨zx l i=5)∧i≠8204 then 3 else 0
theorem jh [Gi] {l:List Row}(hw:ZX l) {i:Int}(hi:zY i):CR Tryz.prog 104 [] [.p (zU l),.p (.int .i32 i)] [] (is (.p (.int .i64 (zx l i)))):=by
 refine zC mixed 5 [] Tryz.func104 rfl (by kernel_rfl) rfl (by simp) (by simp) ?_
 have hB:44032≤i→i≤55203→(i-44032).tmod 28=(i-44032)%28:=fun h1 _=>Int.tmod_eq_emod_of_nonneg (by omega)
 have w2:44032≤i→i≤55203→IntKind.i32.wrap (i-44032)=i-44032:=fun _ _=>by simp[IntKind.wrap,IntKind.signed,IntKind.bits];omega
 by_cases h1:44032≤i∧i≤55203
 ·have a1:(44032:Int)≤i:=by omega
  have a2:i≤55203:=by omega
  have a3:=hB h1.1 h1.2
  have w3:=w2 h1.1 h1.2
  generalize hm:(i-44032)%28=m at a3
  by_cases h2:m=0
  ·subst h2
   have e:zx l i=12:=by unfold zx;rw[if_pos h1,if_pos hm]
   rw[e]
   simp (maxSteps:=1000000) [go_sem,Tryz.f104,w3,a1,a2,a3]
   exact zh (.p (.int .i64 12)) rfl (by simp[go_sem,zf,leA,leT]) ⟨rfl,rfl⟩
  ·have e:zx l i=13:=by unfold zx;rw[if_pos h1,if_neg (by omega)]
   rw[e]
   simp (maxSteps:=1000000) [go_sem,Tryz.f104,w3,a1,a2,a3,h2]
   exact zh (.p (.int .i64 13)) rfl (by simp[go_sem,zf,leA,leT]) ⟨rfl,rfl⟩
 ·have e:zx l i=aL l 4 i:=by unfold zx;rw[if_neg h1]
  rw[e]
  by_cases a1:(44032:Int)≤i
  ·have a2:¬(i≤55203):=by omega
   simp (maxSteps:=1000000) [go_sem,Tryz.f104,a1,a2]
   refine⟨⟨rfl,by simp[Tryz.f135]⟩,zd [] (uS l 4 i hw.n hi) (by simp[go_sem]) ⟨by simp[go_sem],by simp[go_sem]⟩ (by simp[go_sem]) ?_⟩
   rintro _ rs ⟨rfl,rfl⟩
   simp (maxSteps:=1000000) [go_sem]
   exact zh (.p (.int .i64 (aL l 4 i))) rfl (by simp[go_sem,zf,leA,leT]) ⟨rfl,rfl⟩
  ·simp (maxSteps:=1000000) [go_sem,Tryz.f104,a1]
   refine⟨⟨rfl,by simp[Tryz.f135]⟩,zd [] (uS l 4 i hw.n hi) (by simp[go_sem]) ⟨by simp[go_sem],by simp[go_sem]⟩ (by simp[go_sem]) ?_⟩
   rintro _ rs ⟨rfl,rfl⟩
   simp (maxSteps:=1000000) [go_sem]
   exact zh (.p (.int .i64 (aL l 4 i))) rfl (by simp[go_sem,zf,leA,leT]) ⟨rfl,rfl⟩
theorem zfd [Gi] {l:List Row}(hw:ZX l) {i:Int}(hi:zY i):CR Tryz.prog 137 [] [.p (zU l),.p (.int .i32 i)] [] (is (.p (.int .i64 (ZR l i)))):=by
 refine zC mixed 7 [] Tryz.func137 rfl (by kernel_rfl) rfl (by simp) (by simp) ?_
 simp (maxSteps:=1000000) [go_sem,Tryz.f137]
 refine⟨⟨rfl,by simp[Tryz.f135]⟩,zd [] (uS l 6 i hw.n hi) (by simp[go_sem]) ⟨by simp[go_sem],by simp[go_sem]⟩ (by simp[go_sem]) ?_⟩
 rintro _ rs ⟨rfl,rfl⟩
 simp (maxSteps:=1000000) [go_sem]
 by_cases h1:aL l 6 i=0
 ·simp (maxSteps:=1000000) [go_sem,h1]
  refine⟨⟨rfl,by simp[Tryz.f104]⟩,zd [] (jh hw hi) (by simp[go_sem]) ⟨by simp[go_sem],by simp[go_sem]⟩ (by simp[go_sem]) ?_⟩
  rintro _ rs ⟨rfl,rfl⟩
  have e:ZR l i=if(zx l i=4∨zx l i=5)∧i≠8204 then 3 else 0:=by unfold ZR;rw[if_neg (fun h=>h h1)]
  rw[e]
  generalize zx l i=v
  by_cases h2:(v=4∨v=5)∧i≠8204
  ·rw[if_pos h2]
   have h3:¬(i=8204):=by omega
   rcases h2.1 with rfl|rfl
   ·simp (maxSteps:=1000000) [go_sem,h3]
    exact zh (.p (.int .i64 3)) rfl (by simp[go_sem,zf,leA,leT]) ⟨rfl,rfl⟩
   ·simp (maxSteps:=1000000) [go_sem,h3]
    exact zh (.p (.int .i64 3)) rfl (by simp[go_sem,zf,leA,leT]) ⟨rfl,rfl⟩
  ·rw[if_neg h2]
   by_cases h4:v=4
   ·have h3:i=8204:=by omega
    simp (maxSteps:=1000000) [go_sem,h4,h3]
    exact zh (.p (.int .i64 0)) rfl (by simp[go_sem,zf,leA,leT]) ⟨rfl,rfl⟩
   ·by_cases h5:v=5
    ·have h3:i=8204:=by omega
     simp (maxSteps:=1000000) [go_sem,h5,h3]
     exact zh (.p (.int .i64 0)) rfl (by simp[go_sem,zf,leA,leT]) ⟨rfl,rfl⟩
    ·simp (maxSteps:=1000000) [go_sem,h4,h5]
     exact zh (.p (.int .i64 0)) rfl (by simp[go_sem,zf,leA,leT]) ⟨rfl,rfl⟩
 ·have e:ZR l i=aL l 6 i:=by unfold ZR;rw[if_pos h1]
  rw[e]
  simp (maxSteps:=1000000) [go_sem,h1]
  exact zh (.p (.int .i64 (aL l 6 i))) rfl (by simp[go_sem,zf,leA,leT]) ⟨rfl,rfl⟩
def QG(a:Int):Bool:=decide (a=3) || (decide (a=1) || decide (a=2))
theorem ze3 [Gi](a:Int):CR Tryz.prog 108 [] [.p (.int .i64 a)] [] (is (.p (.bool (QG a)))):=by
 refine zC mixed 3 [] Tryz.func108 rfl (by kernel_rfl) rfl (by simp) (by simp) ?_
 by_cases a3:a=3
 ·simp (maxSteps:=1000000) [go_sem,Tryz.f108,a3]
  exact zh (.p (.bool (QG a))) rfl (by simp[go_sem,zf,leA,leT,QG,a3]) ⟨rfl,by first|rfl|simp[a3]⟩
 by_cases a1:a=1
 ·simp (maxSteps:=1000000) [go_sem,Tryz.f108,a1]
  exact zh (.p (.bool (QG a))) rfl (by simp[go_sem,zf,leA,leT,QG,a1]) ⟨rfl,by first|rfl|simp[a1]⟩
 by_cases a2:a=2
 ·simp (maxSteps:=1000000) [go_sem,Tryz.f108,a2]
  exact zh (.p (.bool (QG a))) rfl (by simp[go_sem,zf,leA,leT,QG,a2]) ⟨rfl,by first|rfl|simp[a2]⟩
 simp (maxSteps:=1000000) [go_sem,Tryz.f108,a3,a1,a2]
 exact zh (.p (.bool (QG a))) rfl (by simp[go_sem,zf,leA,leT,QG,a3,a1,a2]) ⟨rfl,by first|rfl|simp[a3,a1,a2]⟩
def Z2(a b:Int):Bool:=
 if a=9 then decide (b=9) || (decide (b=10) || (decide (b=12) || decide (b=13)))
 else if a=12∨a=10 then decide (b=10) || decide (b=11)
 else if a=13∨a=11 then decide (b=11)
 else false
theorem zft [Gi](a b:Int):CR Tryz.prog 109 [] [.p (.int .i64 a),.p (.int .i64 b)] [] (is (.p (.bool (Z2 a b)))):=by
 refine zC mixed 5 [] Tryz.func109 rfl (by kernel_rfl) rfl (by simp) (by simp) ?_
 by_cases a9:a=9
 ·by_cases b9:b=9
  ·simp (maxSteps:=1000000) [go_sem,Tryz.f109,a9,b9]
   exact zh (.p (.bool (Z2 a b))) rfl (by simp[go_sem,zf,leA,leT,Z2,a9,b9]) ⟨rfl,by first|rfl|simp[a9,b9]⟩
  by_cases b10:b=10
  ·simp (maxSteps:=1000000) [go_sem,Tryz.f109,a9,b10]
   exact zh (.p (.bool (Z2 a b))) rfl (by simp[go_sem,zf,leA,leT,Z2,a9,b10]) ⟨rfl,by first|rfl|simp[a9,b10]⟩
  by_cases b12:b=12
  ·simp (maxSteps:=1000000) [go_sem,Tryz.f109,a9,b12]
   exact zh (.p (.bool (Z2 a b))) rfl (by simp[go_sem,zf,leA,leT,Z2,a9,b12]) ⟨rfl,by first|rfl|simp[a9,b12]⟩
  by_cases b13:b=13
  ·simp (maxSteps:=1000000) [go_sem,Tryz.f109,a9,b13]
   exact zh (.p (.bool (Z2 a b))) rfl (by simp[go_sem,zf,leA,leT,Z2,a9,b13]) ⟨rfl,by first|rfl|simp[a9,b13]⟩
  simp (maxSteps:=1000000) [go_sem,Tryz.f109,a9,b9,b10,b12,b13]
  exact zh (.p (.bool (Z2 a b))) rfl (by simp[go_sem,zf,leA,leT,Z2,a9,b9,b10,b12,b13]) ⟨rfl,by first|rfl|simp[a9]⟩
 by_cases a12:a=12
 ·by_cases b10:b=10
  ·simp (maxSteps:=1000000) [go_sem,Tryz.f109,a12,b10]
   exact zh (.p (.bool (Z2 a b))) rfl (by simp[go_sem,zf,leA,leT,Z2,a12,b10]) ⟨rfl,by first|rfl|simp[a12,b10]⟩
  by_cases b11:b=11
  ·simp (maxSteps:=1000000) [go_sem,Tryz.f109,a12,b11]
   exact zh (.p (.bool (Z2 a b))) rfl (by simp[go_sem,zf,leA,leT,Z2,a12,b11]) ⟨rfl,by first|rfl|simp[a12,b11]⟩
  simp (maxSteps:=1000000) [go_sem,Tryz.f109,a12,b10,b11]
  exact zh (.p (.bool (Z2 a b))) rfl (by simp[go_sem,zf,leA,leT,Z2,a12,b10,b11]) ⟨rfl,by first|rfl|simp[a12]⟩
 by_cases a10:a=10
 ·by_cases b10:b=10
  ·simp (maxSteps:=1000000) [go_sem,Tryz.f109,a10,b10]
   exact zh (.p (.bool (Z2 a b))) rfl (by simp[go_sem,zf,leA,leT,Z2,a10,b10]) ⟨rfl,by first|rfl|simp[a10,b10]⟩
  by_cases b11:b=11
  ·simp (maxSteps:=1000000) [go_sem,Tryz.f109,a10,b11]
   exact zh (.p (.bool (Z2 a b))) rfl (by simp[go_sem,zf,leA,leT,Z2,a10,b11]) ⟨rfl,by first|rfl|simp[a10,b11]⟩
  simp (maxSteps:=1000000) [go_sem,Tryz.f109,a10,b10,b11]
  exact zh (.p (.bool (Z2 a b))) rfl (by simp[go_sem,zf,leA,leT,Z2,a10,b10,b11]) ⟨rfl,by first|rfl|simp[a10]⟩
 by_cases a13:a=13
 ·by_cases b11:b=11
  ·simp (maxSteps:=1000000) [go_sem,Tryz.f109,a13,b11]
   exact zh (.p (.bool (Z2 a b))) rfl (by simp[go_sem,zf,leA,leT,Z2,a13,b11]) ⟨rfl,by first|rfl|simp[a13,b11]⟩
  simp (maxSteps:=1000000) [go_sem,Tryz.f109,a13,b11]
  exact zh (.p (.bool (Z2 a b))) rfl (by simp[go_sem,zf,leA,leT,Z2,a13,b11]) ⟨rfl,by first|rfl|simp[a13]⟩
 by_cases a11:a=11
 ·by_cases b11:b=11
  ·simp (maxSteps:=1000000) [go_sem,Tryz.f109,a11,b11]
   exact zh (.p (.bool (Z2 a b))) rfl (by simp[go_sem,zf,leA,leT,Z2,a11,b11]) ⟨rfl,by first|rfl|simp[a11,b11]⟩
  simp (maxSteps:=1000000) [go_sem,Tryz.f109,a11,b11]
  exact zh (.p (.bool (Z2 a b))) rfl (by simp[go_sem,zf,leA,leT,Z2,a11,b11]) ⟨rfl,by first|rfl|simp[a11]⟩
 simp (maxSteps:=1000000) [go_sem,Tryz.f109,a9,a12,a10,a13,a11]
 exact zh (.p (.bool (Z2 a b))) rfl (by simp[go_sem,zf,leA,leT,Z2,a9,a12,a10,a13,a11]) ⟨rfl,by first|rfl|simp[a9,a12,a10,a13,a11]⟩
end Go.Proofs.YtcgfdhdcihmeeaaGreat
end
section
namespace Go.Proofs.YtcgfdhdcihmeeaaGreat
open Go.AM
set_option maxHeartbeats 4000000
set_option maxRecDepth 10000
theorem ziJ [Gi](l:List Span)(hU:Up l)(h12:12<l.length)(hn:l.length<2^31):CR Tryz.prog 119 [] [.p (zB l),.p (.int .i64 0),.p (.int .i64 l.length),.p byV] []
  (fun x rs=>(∃p:Int,x=.tup [.p (.int .i64 p),.p (.int .i64 1)])∧rs=[]):=by
 obtain⟨q,hq⟩:∃q,q=l.length/4:=⟨_,rfl⟩
 obtain⟨r2,hr2⟩:∃r,r=q*2:=⟨_,rfl⟩
 obtain⟨r3,hr3⟩:∃r,r=q*3:=⟨_,rfl⟩
 have hq3:3≤q:=by omega
 have d1:(l.length:Int).tdiv 4=(q:Int):=by rw[hq];rfl
 have w0:IntKind.i64.wrap (l.length:Int)=l.length:=wrap64 (by omega) (by omega)
 have w1:IntKind.i64.wrap (q:Int)=q:=wrap64 (by omega) (by omega)
 have w2:IntKind.i64.wrap ((q:Int)*2)=(r2:Int):=by rw[wrap64 (by omega) (by omega)];omega
 have w3:IntKind.i64.wrap ((q:Int)*3)=(r3:Int):=by rw[wrap64 (by omega) (by omega)];omega
 have w5:IntKind.i64.wrap (r2:Int)=(r2:Int):=wrap64 (by omega) (by omega)
 have w6:IntKind.i64.wrap (r3:Int)=(r3:Int):=wrap64 (by omega) (by omega)
 have e8:(8:Int)≤(l.length:Int):=by omega
 refine zC mixed 15 [55] Tryz.func119 rfl (by kernel_rfl) rfl (by simp) (by simp) ?_
 simp (maxSteps:=1000000) [go_sem,Tryz.f119,d1,w0,w1,w2,w3,w5,w6,e8]
 refine Zw (fun _:Unit=>True) (fun _=>[(12,.p (.int .i64 q)),(13,.p (.int .i64 r2)),(14,.p (.int .i64 r3))]) (fun _=>[]) (zt (fun h=>?_) (fun h=>?_)) ?_
 ·simp (maxSteps:=1000000) [go_sem]
  refine⟨⟨rfl,by simp[Tryz.f141]⟩,zd [([0],[11])] (xG l q 0 hU (by omega) (by omega) hn) (by simp[go_sem,zM]) ⟨by simp[go_sem],by simp[go_sem]⟩ (by simp[go_sem]) ?_⟩
  rintro _ rs ⟨rfl,rfl⟩
  simp (maxSteps:=1000000) [go_sem]
  refine⟨⟨rfl,by simp[Tryz.f141]⟩,zd [([0],[11])] (xG l r2 0 hU (by omega) (by omega) hn) (by simp[go_sem,zM]) ⟨by simp[go_sem],by simp[go_sem]⟩ (by simp[go_sem]) ?_⟩
  rintro _ rs ⟨rfl,rfl⟩
  simp (maxSteps:=1000000) [go_sem]
  refine⟨⟨rfl,by simp[Tryz.f141]⟩,zd [([0],[11])] (xG l r3 0 hU (by omega) (by omega) hn) (by simp[go_sem,zM]) ⟨by simp[go_sem],by simp[go_sem]⟩ (by simp[go_sem]) ?_⟩
  rintro _ rs ⟨rfl,rfl⟩
  simp (maxSteps:=1000000) [go_sem]
  exact zP () trivial (by simp[go_sem])
 ·simp (maxSteps:=1000000) [go_sem]
  exact zP () trivial (by simp[go_sem])
 ·rintro _ ts _
  simp (maxSteps:=1000000) [go_sem]
  refine⟨⟨rfl,by simp[Tryz.f142]⟩,zd [([0],[11])] (YZ l q r2 r3 0 hU (by omega) (by omega) (by omega)) (by simp[go_sem,zM]) ⟨by simp[go_sem],by simp[go_sem]⟩ (by simp[go_sem]) ?_⟩
  rintro _ rs ⟨rfl,rfl⟩
  simp (maxSteps:=1000000) [go_sem]
  exact zu [] (.tup [.p (.int .i64 r2),.p (.int .i64 1)]) ⟨rfl,by simp⟩ (by simp[go_sem,zf,leA,leT,leP]) ⟨⟨_,rfl⟩,by simp[go_sem]⟩
theorem XO [Gi](l:List Span)(hU:Up l)(hn:l.length<2^31):CR Tryz.prog 116 [] [.p (zB l),.p (.int .i64 0),.p (.int .i64 l.length),.p byV] [] (is (.tup [])):=by
 refine zR [200006] mixed 10 [] Tryz.func116 rfl (by kernel_rfl) rfl (by simp) (by simp) ?_
 simp (maxSteps:=1000000) [go_sem,Tryz.f116]
 refine zE (fun m:Nat=>m+1≤l.length∨m=0) (fun m=>[(8,.p (.int .i64 ((m:Int)+1)))]) (fun _=>[]) (fun m=>l.length-m) 0 (.inr rfl) (by simp[go_sem,LeS,leV,leR,leA,wrap64]) (fun m hm=>?_)
 simp (maxSteps:=1000000) [go_sem]
 refine zt (fun h=>?_) (fun h=>?_)
 ·simp (maxSteps:=1000000) [go_sem]
  have w1:IntKind.i64.wrap ((m:Int)+1+1)=(m:Int)+1+1:=wrap64 (by omega) (by omega)
  have w2:IntKind.i64.wrap (m:Int)=m:=wrap64 (by omega) (by omega)
  have hkl:m+1<l.length:=by omega
  have m1:=zp zT l (m+1) hkl
  have m2:=zp zT l m (by omega)
  have hc:=hU.cmp (i:=m) (j:=m+1) (by omega) (by omega) hkl
  have e0:(0:Int)< (m:Int)+1:=by omega
  have e1:(0:Int)≤(m:Int)+1:=by omega
  have e2:(m:Int)+1<l.length:=by omega
  have e3:m<l.length:=by omega
  have e4:((m:Int)+1).toNat=m+1:=by omega
  refine zE (fun _:Unit=>True) (fun _=>[(9,.p (.int .i64 ((m:Int)+1)))]) (fun _=>[]) (fun _=>0) () trivial (by simp[go_sem,LeS,leV,leR,leA]) (fun _ _=>?_)
  simp (maxSteps:=1000000) [go_sem,byV,zB,w2,m1,m2,e0,e1,e2,e3,e4,zT]
  refine⟨⟨rfl,by simp[Tryz.f53]⟩,zd [] (Ve l[m+1] (l[m]'e3)) (by simp[go_sem]) ⟨by simp[go_sem],by simp[go_sem,zT]⟩ (by simp[go_sem]) ?_⟩
  rintro _ rs ⟨rfl,rfl⟩
  simp (maxSteps:=1000000) [go_sem,hc,w1]
  exact zg (m+1) (.inl (by omega)) (by simp[go_sem,LeS,leV,leR,leA]) (by omega)
 ·simp (maxSteps:=1000000) [go_sem]
  exact zh (.tup []) rfl (by simp[go_sem,zf,leT,leP]) ⟨rfl,rfl⟩
theorem zdz [Gi](l:List Span)(hU:Up l)(h0:0<l.length)(hn:l.length<2^31):CR Tryz.prog 121 [] [.p (zB l),.p (.int .i64 0),.p (.int .i64 l.length),.p byV] [] (is (.p (.bool true))):=by
 refine zR [200011,200017,200023] mixed 13 [] Tryz.func121 rfl (by kernel_rfl) rfl (by simp) (by simp) ?_
 simp (maxSteps:=1000000) [go_sem,Tryz.f121]
 refine zE (fun _:Unit=>True) (fun _=>[]) (fun _=>[]) (fun _=>0) () trivial (by simp[go_sem,LeS,leV,leR,leA]) (fun _ _=>?_)
 simp (maxSteps:=1000000) [go_sem,wrap64]
 refine zE (fun m:Nat=>m+1≤l.length) (fun m=>[(9,.p (.int .i64 ((m:Int)+1)))]) (fun _=>[]) (fun m=>l.length-m) 0 (by omega) (by simp[go_sem,LeS,leV,leR,leA]) (fun m hm=>?_)
 have w1:IntKind.i64.wrap ((m:Int)+1+1)=(m:Int)+1+1:=wrap64 (by omega) (by omega)
 have w2:IntKind.i64.wrap (m:Int)=m:=wrap64 (by omega) (by omega)
 by_cases hkl:m+1<l.length
 ·have m1:=zp zT l (m+1) hkl
  have m2:=zp zT l m (by omega)
  have hc:=hU.cmp (i:=m) (j:=m+1) (by omega) (by omega) hkl
  have e1:(0:Int)≤(m:Int)+1:=by omega
  have e2:(m:Int)+1<l.length:=by omega
  have e3:m<l.length:=by omega
  have e4:((m:Int)+1).toNat=m+1:=by omega
  simp (maxSteps:=1000000) [go_sem,byV,zB,w2,m1,m2,e1,e2,e3,e4,zT]
  refine⟨⟨rfl,by simp[Tryz.f53]⟩,zd [] (Ve l[m+1] (l[m]'e3)) (by simp[go_sem]) ⟨by simp[go_sem],by simp[go_sem,zT]⟩ (by simp[go_sem]) ?_⟩
  rintro _ rs ⟨rfl,rfl⟩
  simp (maxSteps:=1000000) [go_sem,hc,w1]
  exact zg (m+1) (by omega) (by simp[go_sem,LeS,leV,leR,leA]) (by omega)
 ·have e2:¬(m:Int)+1<l.length:=by omega
  have e3:(m:Int)+1=l.length:=by omega
  simp (maxSteps:=1000000) [go_sem,e3]
  exact zh (.p (.bool true)) rfl (by simp[go_sem,zf,leA,leT]) ⟨rfl,rfl⟩
end Go.Proofs.YtcgfdhdcihmeeaaGreat
end
section
namespace Go.Proofs.YtcgfdhdcihmeeaaGreat
open Go.AM
set_option maxHeartbeats 4000000
set_option maxRecDepth 10000
def uW:List UInt8:=[0,1,2,2,3,3,3,3,4,4,4,4,4,4,4,4,5,5,5,5,5,5,5,5,5,5,5,5,5,5,5,5,6,6,6,6,6,6,6,6,6,6,6,6,6,6,6,6,6,6,6,6,6,6,6,6,6,6,6,6,6,6,6,6,7,7,7,7,7,7,7,7,7,7,7,7,7,7,7,7,7,7,7,7,7,7,7,7,7,7,7,7,7,7,7,7,7,7,7,7,7,7,7,7,7,7,7,7,7,7,7,7,7,7,7,7,7,7,7,7,7,7,7,7,7,7,7,7,8,8,8,8,8,8,8,8,8,8,8,8,8,8,8,8,8,8,8,8,8,8,8,8,8,8,8,8,8,8,8,8,8,8,8,8,8,8,8,8,8,8,8,8,8,8,8,8,8,8,8,8,8,8,8,8,8,8,8,8,8,8,8,8,8,8,8,8,8,8,8,8,8,8,8,8,8,8,8,8,8,8,8,8,8,8,8,8,8,8,8,8,8,8,8,8,8,8,8,8,8,8,8,8,8,8,8,8,8,8,8,8,8,8,8,8,8,8,8,8,8,8,8,8,8,8,8,8]
theorem zf8:((List.range 256).all fun n=>n==0 || (decide (1≤(uW.getD n 0).toNat)&&decide ((uW.getD n 0).toNat≤8)))=true:=by decide
theorem zgl {n:Nat}(h1:1≤n)(h2:n<256):1≤uh uW n∧uh uW n≤8:=by
 have:=List.all_eq_true.1 zf8 n (List.mem_range.2 h2)
 have hn:(n==0)=false:=by simp;omega
 rw[hn]at this
 simp only[Bool.false_or,Bool.and_eq_true,decide_eq_true_eq]at this
 unfold uh
 omega
theorem zhM [Gi](n:Nat)(h1:1≤n)(h2:n<256):CR Tryz.prog 125 [] [.p (.int .u64 n)] [] (fun x rs=>(∃k:Int,k≠0∧x=.p (.int .i64 k))∧rs=[]):=by
 refine zC mixed 3 [] Tryz.func125 rfl (by kernel_rfl) rfl (by simp) (by simp) ?_
 have e1:¬(4294967296:Int)≤n:=by omega
 have e2:¬(65536:Int)≤n:=by omega
 have e3:¬(256:Int)≤n:=by omega
 have w:IntKind.u8.wrap (n:Int)=n:=by simp[IntKind.wrap,IntKind.signed,IntKind.bits];omega
 simp (maxSteps:=1000000) [go_sem,Tryz.f125,e1,e2,e3,w]
 have ht:=zgl h1 h2
 refine⟨by omega,zu [] (.p (.int .i64 (IntKind.i64.wrap (IntKind.i64.wrap (uh uW n))))) ⟨rfl,by simp⟩ (by simp[go_sem,zf,leA,leT,uW]) ⟨⟨_,?_,rfl⟩,by simp[go_sem]⟩⟩
 rw[wrap64 (x:=uh uW n) (by omega) (by omega),wrap64 (by omega) (by omega)]
 omega
theorem zlP [Gi](n:Nat)(h1:1≤n)(h2:n<256):CR Tryz.prog 93 [] [.p (.int .u64 n)] [] (fun x rs=>(∃k:Int,k≠0∧x=.p (.int .i64 k))∧rs=[]):=by
 refine zC mixed 3 [] Tryz.func93 rfl (by kernel_rfl) rfl (by simp) (by simp) ?_
 simp (maxSteps:=1000000) [go_sem,Tryz.f93]
 refine⟨⟨rfl,by simp[Tryz.f125]⟩,zd [] (zhM n h1 h2) (by simp[go_sem]) ⟨by simp[go_sem],by simp[go_sem]⟩ (by simp[go_sem]) ?_⟩
 rintro _ rs ⟨⟨k,hk,rfl⟩,rfl⟩
 simp (maxSteps:=1000000) [go_sem]
 exact zu [] (.p (.int .i64 k)) ⟨rfl,by simp⟩ (by simp[go_sem,zf,leA,leT]) ⟨⟨_,hk,rfl⟩,by simp[go_sem]⟩
theorem zl5 [Gi](l:List Span)(k:Int)(hk:k≠0)(hU:Up l)(hn:l.length<256):CR Tryz.prog 92 [] [.p (zB l),.p (.int .i64 0),.p (.int .i64 l.length),.p (.int .i64 k),.p byV] [] (is (.tup [])):=by
 have w0:IntKind.i64.wrap (l.length:Int)=l.length:=wrap64 (by omega) (by omega)
 refine zC mixed 21 [] Tryz.func92 rfl (by kernel_rfl) rfl (by simp) (by simp) ?_
 simp (maxSteps:=1000000) [go_sem,Tryz.f92]
 refine zE (fun _:Unit=>True) (fun _=>[]) (fun _=>[]) (fun _=>0) () trivial (by simp[go_sem,LeS,leV,leR,leA]) (fun _ _=>?_)
 simp (maxSteps:=1000000) [go_sem,w0]
 refine zt (fun h=>?_) (fun h=>?_)
 ·simp (maxSteps:=1000000) [go_sem]
  refine⟨⟨rfl,by simp[Tryz.f116]⟩,zd [] (XO l hU (by omega)) (by simp[go_sem]) ⟨by simp[go_sem],by simp[go_sem]⟩ (by simp[go_sem]) ?_⟩
  rintro _ rs ⟨rfl,rfl⟩
  simp (maxSteps:=1000000) [go_sem]
  exact zh (.tup []) rfl (by simp[go_sem,zf,leT,leP]) ⟨rfl,rfl⟩
 ·simp (maxSteps:=1000000) [go_sem,hk]
  refine⟨⟨rfl,by simp[Tryz.f119]⟩,zd [] (ziJ l hU (by omega) (by omega)) (by simp[go_sem]) ⟨by simp[go_sem],by simp[go_sem]⟩ (by simp[go_sem]) ?_⟩
  rintro _ rs ⟨⟨p,rfl⟩,rfl⟩
  simp (maxSteps:=1000000) [go_sem]
  refine⟨⟨rfl,by simp[Tryz.f121]⟩,zd [] (zdz l hU (by omega) (by omega)) (by simp[go_sem]) ⟨by simp[go_sem],by simp[go_sem]⟩ (by simp[go_sem]) ?_⟩
  rintro _ rs ⟨rfl,rfl⟩
  simp (maxSteps:=1000000) [go_sem]
  exact zh (.tup []) rfl (by simp[go_sem,zf,leT,leP]) ⟨rfl,rfl⟩
theorem zjC [Gi](l:List Span)(hU:Up l)(h1:1≤l.length)(hn:l.length<256):CR Tryz.prog 56 [] [.p (zB l),.p byV] [] (is (.tup [])):=by
 have w0:IntKind.u64.wrap (l.length:Int)=l.length:=by simp[IntKind.wrap,IntKind.signed,IntKind.bits];omega
 refine zC mixed 5 [] Tryz.func56 rfl (by kernel_rfl) rfl (by simp) (by simp) ?_
 simp (maxSteps:=1000000) [go_sem,Tryz.f56,zB,w0]
 refine⟨⟨rfl,by simp[Tryz.f93]⟩,zd [] (zlP l.length h1 hn) (by simp[go_sem]) ⟨by simp[go_sem],by simp[go_sem]⟩ (by simp[go_sem]) ?_⟩
 rintro _ rs ⟨⟨k,hk,rfl⟩,rfl⟩
 simp (maxSteps:=1000000) [go_sem]
 refine⟨⟨rfl,by simp[Tryz.f92]⟩,zd [] (zl5 l k hk hU hn) (by simp[go_sem]) ⟨by simp[go_sem],by simp[go_sem,zB]⟩ (by simp[go_sem]) ?_⟩
 rintro _ rs ⟨rfl,rfl⟩
 simp (maxSteps:=1000000) [go_sem]
 exact zh (.tup []) rfl (by simp[go_sem,zf,leT,leP]) ⟨rfl,rfl⟩
end Go.Proofs.YtcgfdhdcihmeeaaGreat
end
section
namespace Go.Proofs.YtcgfdhdcihmeeaaGreat
open Go.AM
set_option maxHeartbeats 2000000
set_option maxRecDepth 10000
def vg(init:List Span)(o:Span):List Span→List Span
 | []=>init++[o]
 |s::l=>if o.t+1=s.f∧o.a=s.a∧o.b=s.b then vg init {o with t:=s.t} l else vg (init++[o]) s l
def Zx:List Span→List Span
 | []=>[]
 |s::l=>vg [] s l
def wW(s:Span):List AV:=[.p (.int .i64 s.f),.p (.int .i64 s.t),.p (.int .i64 s.a),.p (.int .i64 s.b)]
def ZZ(l:List Span):List AV:=((l.map zT).flatMap PV.cells).map .p
theorem xB(l:List Span):(ZZ l).length=l.length*4:=by
 induction l with
 |nil=>rfl
 |cons s l ih=>
  simp[ZZ,zT,PV.cells]at ih⊢
  omega
theorem Ky(l:List Span)(o:Span):ZZ (l++[o])=ZZ l++wW o:=by
 simp[ZZ,wW,zT,PV.cells]
theorem yk(l:List Span)(a b:Tok→Bool):(ZZ l).map (AV.upd (AM.fil a b))=ZZ l:=by
 unfold ZZ
 rw[List.map_map]
 rfl
theorem zgD(o:Span)(a b:Tok→Bool):(wW o).map (AV.upd (AM.fil a b))=wW o:=rfl
theorem Vx(l:List Span)(o:Span)(j:Nat):(ZZ l++wW o)[l.length*4+j]?=(wW o)[j]?:=by
 rw[←xB,List.getElem?_append_right (by omega)]
 congr 1
 omega
theorem XP(l:List Span)(a b c d y:AV):zQ (ZZ l++[a,b,c,d]) (l.length*4+1) [y]=ZZ l++[a,y,c,d]:=by
 have e:(ZZ l).length=l.length*4:=xB l
 unfold zQ
 rw[←e,List.take_length_add_append,List.length_singleton,Nat.add_assoc,List.drop_length_add_append]
 simp
theorem J5(l:List Span)(a b c d y:AV):(ZZ l++[a,b,c,d]).take (l.length*4+1)++y::(ZZ l++[a,b,c,d]).drop (l.length*4+1+1)=ZZ l++[a,y,c,d]:=by
 have:=XP l a b c d y
 simpa[zQ]using this
def zff(l:List Span)(k:Nat):Option (List Span×Span)→St
 |none=>{n:=61,nv:=10,vs:=[(3,.p (.opq (.slice none 0 0))),(7,.p (zB l)),(8,.p (.int .i64 l.length)),(9,.p (.int .i64 k))],ts:=[],rs:=[],rm:=[3,57,58]}
 |some (init,o)=>{n:=61,nv:=10,vs:=[(3,.la [58] 4 0 (init.length+1)),(7,.p (zB l)),(8,.p (.int .i64 l.length)),(9,.p (.int .i64 k))],ts:=[],rs:=[([58],ZZ init++wW o)],rm:=[3,57,58]}
def zn0(l:List Span)(k:Nat):Option (List Span×Span)→Prop
 |none=>k=0
 |some (init,o)=>k≤l.length∧Zx l=vg init o (l.drop k)∧init.length<k∧ -1000000000≤o.t∧o.t≤1000000000
theorem zbZ [Gi](l:List Span)(hn:l.length<2^31)(hb:∀s∈l, -1000000000≤s.t∧s.t≤1000000000):CR Tryz.prog 57 [] [.p (zB l)] [] (fun x rs=>(l=[]∧x=.p (.sl 4 [])∧rs=[])∨(0< (Zx l).length∧x=.la [58] 4 0 (Zx l).length∧rs=[([58],ZZ (Zx l))])):=by
 refine vX [] mixed 10 [] Tryz.func57 rfl (by kernel_rfl) [3,57,58] rfl (by simp) (by simp) ?_
 simp (disch:=omega) [go_sem,Tryz.f57,zB]
 refine Z7 (fun i:Nat×Option (List Span×Span)=>zn0 l i.1 i.2) (fun i=>zff l i.1 i.2) (fun i=>l.length-i.1) (0,none) rfl (by simp[go_sem,LeS,leV,leR,leA,zB,zff]) ?_
 rintro⟨k,_|⟨init,o⟩⟩ hI
 ·have hk:k=0:=hI
  subst hk
  simp (disch:=omega) [go_sem,zff,zB]
  refine zt (fun h=>?_) (fun h=>?_)
  ·have em:=zp zT l 0 h
   have hx:=hb l[0] (List.getElem_mem h)
   have hl:l=l[0]::l.drop 1:=by
    have:=List.drop_eq_getElem_cons h
    simpa using this
   have hj:Zx l=vg [] l[0] (l.drop 1):=by
    conv=>lhs;rw[hl]
    rfl
   generalize l[0]=x at em hx hj
   simp (disch:=omega) [go_sem,em,h,zT]
   refine⟨by decide,zg (1,some ([],x)) ⟨by show 1≤l.length;omega,hj,by simp,hx.1,hx.2⟩ ?_ ?_⟩
   ·simp[go_sem,LeS,leV,leR,leA,leL,ZZ,wW]
    decide
   ·show l.length-1<l.length-0
    omega
  ·have hl:l=[]:=List.length_eq_zero_iff.1 (by omega)
   simp (disch:=omega) [go_sem]
   exact zu [] (.p (.sl 4 [])) ⟨rfl,by simp⟩ (by simp[go_sem,zf,leA,leT]) (.inl ⟨hl,rfl,rfl⟩)
 ·obtain⟨h1,h2,h3,h5,h6⟩:=hI
  simp only at h1 h2 h3
  simp (disch:=omega) [go_sem,zff,zB]
  refine zt (fun h=>?_) (fun h=>?_)
  ·have em:=zp zT l k h
   have w0:IntKind.i64.wrap (init.length:Int)=(init.length:Int):=wrap64 (by omega) (by omega)
   have w1:IntKind.i64.wrap (o.t+1)=o.t+1:=wrap64 (by omega) (by omega)
   have w2:IntKind.i64.wrap ((k:Int)+1)=(k:Int)+1:=wrap64 (by omega) (by omega)
   have g1:=Vx init o 1
   have g2:=Vx init o 2
   have g3:=Vx init o 3
   simp only[wW,List.getElem?_cons_succ,List.getElem?_cons_zero]at g1 g2 g3
   have hi:(init.length:Int)< (init.length:Int)+1:=by omega
   have hx:=hb l[k] (List.getElem_mem h)
   have hd:l.drop k=l[k]::l.drop (k+1):=List.drop_eq_getElem_cons h
   rw[hd,vg]at h2
   generalize l[k]=x at em hx h2
   simp (disch:=omega) [go_sem,em,h,zT,w0,w1,yk,wW,g1,g2,g3,hi]
   refine qc (fun hc=>?_) (fun hc=>?_)
   ·have hc':o.t+1=x.f∧o.a=x.a∧o.b=x.b:=by
     simp at hc
     exact⟨hc.1.1,hc.1.2,hc.2⟩
    rw[if_pos hc']at h2
    simp (disch:=omega) [go_sem,w2,xB,hi]
    exact zg (k+1,some (init,{o with t:=x.t})) ⟨by show k+1≤l.length;omega,h2,by show init.length<k+1;omega,hx.1,hx.2⟩ (by simp[go_sem,LeS,leV,leR,leA,J5,yk,zi]) (by show l.length- (k+1)<l.length-k;omega)
   ·have hc':¬(o.t+1=x.f∧o.a=x.a∧o.b=x.b):=by
     intro e
     simp[e]at hc
    rw[if_neg hc']at h2
    simp (disch:=omega) [go_sem,w2,yk,xB]
    refine⟨⟨by omega,by omega⟩,?_⟩
    exact zg (k+1,some (init++[o],x)) ⟨by show k+1≤l.length;omega,h2,by show(init++[o]).length<k+1;simp;omega,hx.1,hx.2⟩ (by simp[go_sem,LeS,leV,leR,leA,wW,Ky,yk,zi]) (by show l.length- (k+1)<l.length-k;omega)
  ·have hk:k=l.length:=by omega
   subst hk
   simp (disch:=omega) [go_sem]
   rw[List.drop_length]at h2
   refine zu [[58]] (.la [58] 4 0 (Zx l).length) ⟨rfl,by simp⟩ (by simp[go_sem,zf,leA,leT,h2,vg]) ?_
   refine .inr ⟨by rw[h2];simp[vg],rfl,?_⟩
   simp[go_sem,yk,zgD,h2,vg,Ky]
theorem zfw [Gi](l:List Span)(hn:l.length<2^31)(hb:∀s∈l, -1000000000≤s.t∧s.t≤1000000000):CR Tryz.prog 57 [] [.p (zB l)] [] (is (.p (zB (Zx l)))):=by
 refine CR.freeze (zbZ l hn hb) (fun _=>false) rfl ?_
 rintro x rs (⟨rfl,rfl,rfl⟩|⟨h0,rfl,rfl⟩)
 ·refine⟨.p (.sl 4 []),fun g w v hG hv=>?_,rfl,rfl⟩
  rw[uw]at hv⊢
  exact zj.ext (WS hG _) _ _ hv
 ·refine⟨.p (zB (Zx l)),fun g w v hG hv=>?_,rfl,rfl⟩
  rw[uw]
  exact za9 hG h0 (by simp[zl,ZZ]) rfl (by simp) (fun e he=>by
   obtain⟨s,_,rfl⟩:=List.mem_map.1 he
   exact⟨rfl,rfl⟩) hv
end Go.Proofs.YtcgfdhdcihmeeaaGreat
end
section
namespace Go.Proofs.YtcgfdhdcihmeeaaGreat
open Go.AM
set_option maxHeartbeats 2000000
set_option maxRecDepth 10000
structure Z3(α:Type)where
 f:Int
 t:Int
 v:α
def qZ {α:Type}(zero:α)(i:Int):List (Z3 α)→Int→α×Int
 | [],last=>(zero,last)
 |p::l,last=>if p.f≤i∧i≤p.t then(p.v,min p.t last)else if i<p.f∧p.f≤last then qZ zero i l (p.f-1)else qZ zero i l last
def ux(p:Z3 Int):PV:=.agg [.int .i64 p.f,.int .i64 p.t,.int .i64 p.v]
def yE(l:List (Z3 Int)):PV:=.sl 3 (l.map ux)
theorem KK [Gi](l:List (Z3 Int))(zero i last:Int)(hn:l.length<2^31)(hb:∀p∈l, -1000000000≤p.f∧p.f≤1000000000):
  CR Tryz.prog 83 [] [.p (yE l),.p (.int .i64 zero),.p (.int .i64 i),.p (.int .i64 last)] [] (is (.tup [.p (.int .i64 (qZ zero i l last).1),.p (.int .i64 (qZ zero i l last).2)])):=by
 refine zR [5] mixed 15 [] Tryz.func83 rfl (by kernel_rfl) rfl (by simp) (by simp) ?_
 simp (disch:=omega) [go_sem,Tryz.f83,yE]
 refine Z7 (fun k:Nat×Int=>k.1≤l.length∧qZ zero i l last=qZ zero i (l.drop k.1) k.2) (fun k=>{n:=52,nv:=15,vs:=[(1,.p (.int .i64 zero)),(2,.p (.int .i64 i)),(3,.p (.int .i64 k.2)),(8,.p (.int .i64 0)),(9,.p (.int .i64 0)),(12,.p (yE l)),(13,.p (.int .i64 l.length)),(14,.p (.int .i64 k.1))],ts:=[],rs:=[]}) (fun k=>l.length-k.1) (0,last) (by simp) (by simp[go_sem,LeS,leV,leR,leA,yE]) ?_
 rintro⟨k,la⟩ ⟨hk,hf⟩
 simp only at hk hf
 simp (disch:=omega) [go_sem,yE]
 refine zt (fun h=>?_) (fun h=>?_)
 ·have em:=zp ux l k h
  have hd:l.drop k=l[k]::l.drop (k+1):=List.drop_eq_getElem_cons h
  have hx:=hb l[k] (List.getElem_mem h)
  have w2:IntKind.i64.wrap ((k:Int)+1)=(k:Int)+1:=wrap64 (by omega) (by omega)
  rw[hd,qZ]at hf
  generalize l[k]=x at em hx hf
  have w1:IntKind.i64.wrap (x.f-1)=x.f-1:=wrap64 (by omega) (by omega)
  simp (disch:=omega) [go_sem,em,h,ux]
  refine qc (fun hc=>?_) (fun hc=>?_)
  ·have hc':x.f≤i∧i≤x.t:=by simpa using hc
   rw[if_pos hc']at hf
   simp (disch:=omega) [go_sem]
   exact zh (.tup [.p (.int .i64 x.v),.p (.int .i64 (min x.t la))]) rfl (by simp[go_sem,zf,leA]) ⟨rfl,by rw[hf]⟩
  ·have hc':¬(x.f≤i∧i≤x.t):=by intro e;simp[e]at hc
   rw[if_neg hc']at hf
   simp (disch:=omega) [go_sem]
   refine qc (fun hc2=>?_) (fun hc2=>?_)
   ·have hc3:i<x.f∧x.f≤la:=by simpa using hc2
    rw[if_pos hc3]at hf
    simp (disch:=omega) [go_sem,w1,w2]
    exact zg (k+1,x.f-1) ⟨by show k+1≤l.length;omega,hf⟩ (by simp[go_sem,LeS,leV,leR,leA]) (by show l.length- (k+1)<l.length-k;omega)
   ·have hc3:¬(i<x.f∧x.f≤la):=by intro e;simp[e]at hc2
    rw[if_neg hc3]at hf
    simp (disch:=omega) [go_sem,w2]
    exact zg (k+1,la) ⟨by show k+1≤l.length;omega,hf⟩ (by simp[go_sem,LeS,leV,leR,leA]) (by show l.length- (k+1)<l.length-k;omega)
 ·have hk':k=l.length:=by omega
  subst hk'
  rw[List.drop_length,qZ]at hf
  simp (disch:=omega) [go_sem]
  exact zh (.tup [.p (.int .i64 zero),.p (.int .i64 la)]) rfl (by simp[go_sem,zf,leA]) ⟨rfl,by rw[hf]⟩
end Go.Proofs.YtcgfdhdcihmeeaaGreat
end
section
namespace Go.Proofs.YtcgfdhdcihmeeaaGreat
open Go.AM
set_option maxHeartbeats 2000000
set_option maxRecDepth 10000
structure Q6 where
 a:Int
 b:Int
 deriving DecidableEq
def qA(p:Q6):List PV:=[.int .i32 p.a,.int .i32 p.b]
structure Flags where
 p:Bool
 w:Bool
 l:Bool
 o:Bool
 deriving DecidableEq
def qm(p:Flags):List PV:=[.bool p.p,.bool p.w,.bool p.l,.bool p.o]
def uA(p:Z3 Q6):PV:=.agg (.int .i64 p.f::.int .i64 p.t::qA p.v)
def yM(l:List (Z3 Q6)):PV:=.sl 4 (l.map uA)
theorem JN [Gi](l:List (Z3 Q6))(zero:Q6)(i last:Int)(hn:l.length<2^31)(hb:∀p∈l, -1000000000≤p.f∧p.f≤1000000000):
  CR Tryz.prog 58 [] [.p (yM l),.p (.agg (qA zero)),.p (.int .i64 i),.p (.int .i64 last)] [] (is (.tup [.p (.agg (qA (qZ zero i l last).1)),.p (.int .i64 (qZ zero i l last).2)])):=by
 refine zR [100005] mixed 15 [] Tryz.func58 rfl (by kernel_rfl) rfl (by simp) (by simp) ?_
 simp (disch:=omega) [go_sem,Tryz.f58,yM,qA]
 refine Z7 (fun k:Nat×Int=>k.1≤l.length∧qZ zero i l last=qZ zero i (l.drop k.1) k.2) (fun k=>{n:=52,nv:=15,vs:=[(2,.p (.int .i64 i)),(3,.p (.int .i64 k.2)),(5,.lp [5] 0),(8,.lp [8] 0),(9,.p (.int .i64 0)),(12,.p (yM l)),(13,.p (.int .i64 l.length)),(14,.p (.int .i64 k.1))],ts:=[],rs:=[([5],(qA zero).map .p),([8],[.p (.int .i32 0),.p (.int .i32 0)])]}) (fun k=>l.length-k.1) (0,last) (by simp) (by simp[go_sem,LeS,leV,leR,leA,leL,yM,qA]) ?_
 rintro⟨k,la⟩ ⟨hk,hf⟩
 simp only at hk hf
 simp (disch:=omega) [go_sem,yM,qA]
 refine zt (fun h=>?_) (fun h=>?_)
 ·have em:=zp uA l k h
  have hd:l.drop k=l[k]::l.drop (k+1):=List.drop_eq_getElem_cons h
  have hx:=hb l[k] (List.getElem_mem h)
  have w2:IntKind.i64.wrap ((k:Int)+1)=(k:Int)+1:=wrap64 (by omega) (by omega)
  rw[hd,qZ]at hf
  generalize l[k]=x at em hx hf
  have w1:IntKind.i64.wrap (x.f-1)=x.f-1:=wrap64 (by omega) (by omega)
  simp (disch:=omega) [go_sem,em,h,uA,qA]
  refine qc (fun hc=>?_) (fun hc=>?_)
  ·have hc':x.f≤i∧i≤x.t:=by simpa using hc
   rw[if_pos hc']at hf
   simp (disch:=omega) [go_sem,List.findSome?]
   exact zh (.tup [.p (.agg (qA x.v)),.p (.int .i64 (min x.t la))]) rfl (by simp[go_sem,zf,leA,qA]) ⟨rfl,by rw[hf];rfl⟩
  ·have hc':¬(x.f≤i∧i≤x.t):=by intro e;simp[e]at hc
   rw[if_neg hc']at hf
   simp (disch:=omega) [go_sem]
   refine qc (fun hc2=>?_) (fun hc2=>?_)
   ·have hc3:i<x.f∧x.f≤la:=by simpa using hc2
    rw[if_pos hc3]at hf
    simp (disch:=omega) [go_sem,w1,w2]
    exact zg (k+1,x.f-1) ⟨by show k+1≤l.length;omega,hf⟩ (by simp[go_sem,LeS,leV,leR,leA,leL]) (by show l.length- (k+1)<l.length-k;omega)
   ·have hc3:¬(i<x.f∧x.f≤la):=by intro e;simp[e]at hc2
    rw[if_neg hc3]at hf
    simp (disch:=omega) [go_sem,w2]
    exact zg (k+1,la) ⟨by show k+1≤l.length;omega,hf⟩ (by simp[go_sem,LeS,leV,leR,leA,leL]) (by show l.length- (k+1)<l.length-k;omega)
 ·have hk':k=l.length:=by omega
  subst hk'
  rw[List.drop_length,qZ]at hf
  simp (disch:=omega) [go_sem]
  exact zh (.tup [.p (.agg (qA zero)),.p (.int .i64 la)]) rfl (by simp[go_sem,zf,leA,qA]) ⟨rfl,by rw[hf];rfl⟩
def KL(p:Z3 Flags):PV:=.agg (.int .i64 p.f::.int .i64 p.t::qm p.v)
def yy(l:List (Z3 Flags)):PV:=.sl 6 (l.map KL)
theorem JL [Gi](l:List (Z3 Flags))(zero:Flags)(i last:Int)(hn:l.length<2^31)(hb:∀p∈l, -1000000000≤p.f∧p.f≤1000000000):
  CR Tryz.prog 88 [] [.p (yy l),.p (.agg (qm zero)),.p (.int .i64 i),.p (.int .i64 last)] [] (is (.tup [.p (.agg (qm (qZ zero i l last).1)),.p (.int .i64 (qZ zero i l last).2)])):=by
 refine zR [100005] mixed 15 [] Tryz.func88 rfl (by kernel_rfl) rfl (by simp) (by simp) ?_
 simp (disch:=omega) [go_sem,Tryz.f88,yy,qm]
 refine Z7 (fun k:Nat×Int=>k.1≤l.length∧qZ zero i l last=qZ zero i (l.drop k.1) k.2) (fun k=>{n:=52,nv:=15,vs:=[(2,.p (.int .i64 i)),(3,.p (.int .i64 k.2)),(5,.lp [5] 0),(8,.lp [8] 0),(9,.p (.int .i64 0)),(12,.p (yy l)),(13,.p (.int .i64 l.length)),(14,.p (.int .i64 k.1))],ts:=[],rs:=[([5],(qm zero).map .p),([8],[.p (.bool false),.p (.bool false),.p (.bool false),.p (.bool false)])]}) (fun k=>l.length-k.1) (0,last) (by simp) (by simp[go_sem,LeS,leV,leR,leA,leL,yy,qm]) ?_
 rintro⟨k,la⟩ ⟨hk,hf⟩
 simp only at hk hf
 simp (disch:=omega) [go_sem,yy,qm]
 refine zt (fun h=>?_) (fun h=>?_)
 ·have em:=zp KL l k h
  have hd:l.drop k=l[k]::l.drop (k+1):=List.drop_eq_getElem_cons h
  have hx:=hb l[k] (List.getElem_mem h)
  have w2:IntKind.i64.wrap ((k:Int)+1)=(k:Int)+1:=wrap64 (by omega) (by omega)
  rw[hd,qZ]at hf
  generalize l[k]=x at em hx hf
  have w1:IntKind.i64.wrap (x.f-1)=x.f-1:=wrap64 (by omega) (by omega)
  simp (disch:=omega) [go_sem,em,h,KL,qm]
  refine qc (fun hc=>?_) (fun hc=>?_)
  ·have hc':x.f≤i∧i≤x.t:=by simpa using hc
   rw[if_pos hc']at hf
   simp (disch:=omega) [go_sem,List.findSome?]
   exact zh (.tup [.p (.agg (qm x.v)),.p (.int .i64 (min x.t la))]) rfl (by simp[go_sem,zf,leA,qm]) ⟨rfl,by rw[hf];rfl⟩
  ·have hc':¬(x.f≤i∧i≤x.t):=by intro e;simp[e]at hc
   rw[if_neg hc']at hf
   simp (disch:=omega) [go_sem]
   refine qc (fun hc2=>?_) (fun hc2=>?_)
   ·have hc3:i<x.f∧x.f≤la:=by simpa using hc2
    rw[if_pos hc3]at hf
    simp (disch:=omega) [go_sem,w1,w2]
    exact zg (k+1,x.f-1) ⟨by show k+1≤l.length;omega,hf⟩ (by simp[go_sem,LeS,leV,leR,leA,leL]) (by show l.length- (k+1)<l.length-k;omega)
   ·have hc3:¬(i<x.f∧x.f≤la):=by intro e;simp[e]at hc2
    rw[if_neg hc3]at hf
    simp (disch:=omega) [go_sem,w2]
    exact zg (k+1,la) ⟨by show k+1≤l.length;omega,hf⟩ (by simp[go_sem,LeS,leV,leR,leA,leL]) (by show l.length- (k+1)<l.length-k;omega)
 ·have hk':k=l.length:=by omega
  subst hk'
  rw[List.drop_length,qZ]at hf
  simp (disch:=omega) [go_sem]
  exact zh (.tup [.p (.agg (qm zero)),.p (.int .i64 la)]) rfl (by simp[go_sem,zf,leA,qm]) ⟨rfl,by rw[hf];rfl⟩
end Go.Proofs.YtcgfdhdcihmeeaaGreat
end
section
namespace Go.Proofs.YtcgfdhdcihmeeaaGreat
open Go.AM
set_option maxHeartbeats 2000000
set_option maxRecDepth 10000
def Qm(w size:Nat)(idx:List Nat)(blocks:List (List PV)):PV:=.agg [.int .i64 size,.sl 1 (idx.map fun k:Nat=>.int .i64 k),.sl (128*w) (blocks.map .agg)]
def YQ(w:Nat)(idx:List Nat)(blocks:List (List PV))(i:Nat)(v:List PV):Prop:=
 ∃k cs,idx[i/128]?=some k∧blocks[k]?=some cs∧cs.length=128*w∧(cs.drop (i%128*w)).take w=v
theorem zjA [Gi](size:Nat)(idx:List Nat)(blocks:List (List PV))(i:Nat)(v:Int)(hs:size<2^31)(hi:i<size)(h:YQ 1 idx blocks i [.int .i64 v]):
  CR Tryz.prog 94 [] [.p (.pt 3 (Qm 1 size idx blocks)),.p (.int .i64 i)] [] (is (.p (.int .i64 v))):=by
 obtain⟨k,cs,h1,h2,h3,h4⟩:=h
 refine zR [] mixed 6 [] Tryz.func94 rfl (by kernel_rfl) rfl (by simp) (by simp) ?_
 have e1:¬(size:Int)≤i:=by omega
 have e2:¬(i:Int)<0:=by omega
 obtain⟨n1,h1⟩:=List.getElem?_eq_some_iff.1 h1
 obtain⟨n2,h2⟩:=List.getElem?_eq_some_iff.1 h2
 have m1:=zp (fun k:Nat=>PV.int .i64 k) idx (i/128) n1
 have m2:=zp PV.agg blocks k n2
 rw[h1]at m1
 rw[h2]at m2
 have q1:(i:Int).tdiv 128=((i/128:Nat):Int):=rfl
 have q2:(i:Int).tmod 128=((i%128:Nat):Int):=rfl
 have w1:IntKind.i64.wrap ((i:Int)/128)=((i/128:Nat):Int):=by rw[wrap64 (by omega) (by omega)];omega
 have w2:IntKind.i64.wrap ((i:Int)%128)=((i%128:Nat):Int):=by rw[wrap64 (by omega) (by omega)];omega
 have t1:((i:Int)/128).toNat=i/128:=by omega
 have t2:((i:Int)%128).toNat=i%128:=by omega
 have b0:0≤(i:Int)/128:=by omega
 have b1:(i:Int)/128<idx.length:=by omega
 have b2:0≤(i:Int)%128:=by omega
 have b3:(i:Int)%128<128:=by omega
 have hv:cs[i%128]?=some (.int .i64 v):=by
  simp only[Nat.mul_one]at h4
  rw[←List.head?_drop]
  cases hd:cs.drop (i%128)with
  |nil=>rw[hd]at h4;simp at h4
  |cons a l=>rw[hd]at h4;simp at h4;simp[h4]
 simp only[Nat.mul_one]at h3
 obtain⟨n3,hv'⟩:=List.getElem?_eq_some_iff.1 hv
 simp (disch:=omega) [go_sem,Tryz.f94,Qm,e1,e2,q1,q2,w1,m1,m2,n2,t1,t2,b0,b1,b2,b3,hv',h3]
 exact zh (.p (.int .i64 v)) rfl (by simp[go_sem,zf,leA]) ⟨rfl,rfl⟩
end Go.Proofs.YtcgfdhdcihmeeaaGreat
end
section
namespace Go.Proofs.YtcgfdhdcihmeeaaGreat
open Go.AM
set_option maxHeartbeats 2000000
set_option maxRecDepth 10000
theorem zj7 [Gi](size:Nat)(idx:List Nat)(blocks:List (List PV))(i:Nat)(v:Q6)(hs:size<2^31)(hi:i<size)(h:YQ 2 idx blocks i (qA v)):
  CR Tryz.prog 31 [] [.p (.pt 3 (Qm 2 size idx blocks)),.p (.int .i64 i)] [] (is (.p (.agg (qA v)))):=by
 obtain⟨k,cs,h1,h2,h3,h4⟩:=h
 refine zR [] mixed 6 [] Tryz.func31 rfl (by kernel_rfl) rfl (by simp) (by simp) ?_
 have e1:¬(size:Int)≤i:=by omega
 have e2:¬(i:Int)<0:=by omega
 obtain⟨n1,h1⟩:=List.getElem?_eq_some_iff.1 h1
 obtain⟨n2,h2⟩:=List.getElem?_eq_some_iff.1 h2
 have m1:=zp (fun k:Nat=>PV.int .i64 k) idx (i/128) n1
 have m2:=zp PV.agg blocks k n2
 rw[h1]at m1
 rw[h2]at m2
 have q1:(i:Int).tdiv 128=((i/128:Nat):Int):=rfl
 have q2:(i:Int).tmod 128=((i%128:Nat):Int):=rfl
 have w1:IntKind.i64.wrap ((i:Int)/128)=((i/128:Nat):Int):=by rw[wrap64 (by omega) (by omega)];omega
 have w2:IntKind.i64.wrap ((i:Int)%128)=((i%128:Nat):Int):=by rw[wrap64 (by omega) (by omega)];omega
 have t1:((i:Int)/128).toNat=i/128:=by omega
 have t2:((i:Int)%128).toNat=i%128:=by omega
 have b0:0≤(i:Int)/128:=by omega
 have b1:(i:Int)/128<idx.length:=by omega
 have b2:0≤(i:Int)%128:=by omega
 have b3:(i:Int)%128<128:=by omega
 have hl:i%128*2+2≤cs.length:=by omega
 simp only[qA]at h4
 simp (disch:=omega) [go_sem,Tryz.f31,Qm,e1,e2,q1,q2,w1,m1,m2,n2,t1,t2,b0,b1,b2,b3,h4,h3,qA]
 exact⟨by omega,zh (.p (.agg (qA v))) rfl (by simp[go_sem,zf,leA,qA]) ⟨rfl,rfl⟩⟩
theorem zjw [Gi](size:Nat)(idx:List Nat)(blocks:List (List PV))(i:Nat)(v:Flags)(hs:size<2^31)(hi:i<size)(h:YQ 4 idx blocks i (qm v)):
  CR Tryz.prog 62 [] [.p (.pt 3 (Qm 4 size idx blocks)),.p (.int .i64 i)] [] (is (.p (.agg (qm v)))):=by
 obtain⟨k,cs,h1,h2,h3,h4⟩:=h
 refine zR [] mixed 6 [] Tryz.func62 rfl (by kernel_rfl) rfl (by simp) (by simp) ?_
 have e1:¬(size:Int)≤i:=by omega
 have e2:¬(i:Int)<0:=by omega
 obtain⟨n1,h1⟩:=List.getElem?_eq_some_iff.1 h1
 obtain⟨n2,h2⟩:=List.getElem?_eq_some_iff.1 h2
 have m1:=zp (fun k:Nat=>PV.int .i64 k) idx (i/128) n1
 have m2:=zp PV.agg blocks k n2
 rw[h1]at m1
 rw[h2]at m2
 have q1:(i:Int).tdiv 128=((i/128:Nat):Int):=rfl
 have q2:(i:Int).tmod 128=((i%128:Nat):Int):=rfl
 have w1:IntKind.i64.wrap ((i:Int)/128)=((i/128:Nat):Int):=by rw[wrap64 (by omega) (by omega)];omega
 have w2:IntKind.i64.wrap ((i:Int)%128)=((i%128:Nat):Int):=by rw[wrap64 (by omega) (by omega)];omega
 have t1:((i:Int)/128).toNat=i/128:=by omega
 have t2:((i:Int)%128).toNat=i%128:=by omega
 have b0:0≤(i:Int)/128:=by omega
 have b1:(i:Int)/128<idx.length:=by omega
 have b2:0≤(i:Int)%128:=by omega
 have b3:(i:Int)%128<128:=by omega
 have hl:i%128*4+4≤cs.length:=by omega
 simp only[qm]at h4
 simp (disch:=omega) [go_sem,Tryz.f62,Qm,e1,e2,q1,q2,w1,m1,m2,n2,t1,t2,b0,b1,b2,b3,h4,h3,qm]
 exact⟨by omega,zh (.p (.agg (qm v))) rfl (by simp[go_sem,zf,leA,qm]) ⟨rfl,rfl⟩⟩
end Go.Proofs.YtcgfdhdcihmeeaaGreat
end
