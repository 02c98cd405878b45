/- A part of this seat's proofs, by an abstract machine. Conditions: each law's. -/
import Derived.Test.YtfjdbbpimklecaaGreatDoorT18
set_option maxHeartbeats 4000000
set_option maxRecDepth 10000
namespace Go.Proofs.YtfjdbbpimklecaaGreatDoor
section
open Go.AM
theorem zeZ [Gi](x:Int):CR Tryz.prog 162 [] [.p (.int .i64 x)] [] (is (.p (.bool false))):=by
 refine zx mixed 3 [] Tryz.func162 rfl (by kernel_rfl) rfl (by simp) (by simp) ?_
 simp[go_sem,Tryz.f162]
 exact zg (.p (.bool false)) rfl (by simp[go_sem,zf,leA]) ⟨rfl,rfl⟩
def zel(x y:Int):Int:=if x<y then -1 else if y<x then 1 else 0
theorem zeA [Gi](x y:Int):CR Tryz.prog 108 [] [.p (.int .i64 x),.p (.int .i64 y)] [] (is (.p (.int .i64 (zel x y)))):=by
 refine zx mixed 7 [] Tryz.func108 rfl (by kernel_rfl) rfl (by simp) (by simp) ?_
 simp[go_sem,Tryz.f108]
 refine⟨⟨rfl,by simp[Tryz.f162]⟩,zd [] (zeZ x) (by simp[go_sem]) ⟨by simp[go_sem],by simp[go_sem]⟩ (by simp[go_sem]) ?_⟩
 rintro _ rs ⟨rfl,rfl⟩
 simp[go_sem]
 refine⟨⟨rfl,by simp[Tryz.f162]⟩,zd [] (zeZ y) (by simp[go_sem]) ⟨by simp[go_sem],by simp[go_sem]⟩ (by simp[go_sem]) ?_⟩
 rintro _ rs ⟨rfl,rfl⟩
 simp[go_sem]
 refine zh (fun h=>?_) (fun h=>?_)
 ·simp[go_sem]
  exact zg (.p (.int .i64 (-1))) rfl (by simp[go_sem,zf,leA]) ⟨rfl,by rw[zel,if_pos h]⟩
 ·simp[go_sem]
  refine zh (fun h2=>?_) (fun h2=>?_)
  ·simp[go_sem]
   exact zg (.p (.int .i64 1)) rfl (by simp[go_sem,zf,leA]) ⟨rfl,by rw[zel,if_neg h,if_pos h2]⟩
  ·simp[go_sem]
   exact zg (.p (.int .i64 0)) rfl (by simp[go_sem,zf,leA]) ⟨rfl,by rw[zel,if_neg h,if_neg h2]⟩
theorem Uq [Gi](s t:Span):CR Tryz.prog 107 [] [.p (zZ s),.p (zZ t)] [] (is (.p (.int .i64 (zel s.f t.f)))):=by
 refine zx mixed 5 [] Tryz.func107 rfl (by kernel_rfl) rfl (by simp) (by simp) ?_
 simp[go_sem,Tryz.f107,zZ]
 refine⟨⟨rfl,by simp[Tryz.f108]⟩,zd [] (zeA s.f t.f) (by simp[go_sem]) ⟨by simp[go_sem],by simp[go_sem]⟩ (by simp[go_sem]) ?_⟩
 rintro _ rs ⟨rfl,rfl⟩
 simp[go_sem]
 exact zg (.p (.int .i64 (zel s.f t.f))) rfl (by simp[go_sem,zf,leA]) ⟨rfl,rfl⟩
def byV:PV:=.opq (.func (.func 107) #[] #[])
def Up(l:List Span):Prop:=∀(i j:Nat) (x y:Span),i≤j→l[i]?=some x→l[j]?=some y→x.f≤y.f
theorem Up.cmp {l:List Span}(h:Up l) {i j:Nat}(hij:i≤j)(hi:i<l.length)(hj:j<l.length):¬zel l[j].f l[i].f<0:=by
 have:=h i j l[i] l[j] hij (List.getElem?_eq_getElem hi) (List.getElem?_eq_getElem hj)
 unfold zel
 rw[if_neg (by omega)]
 split<;>omega
theorem UN [Gi](l:List Span)(i j:Nat)(n:Int)(hU:Up l)(hij:i≤j)(hj:j<l.length):CR Tryz.prog 241 [[0]] [.p (zF l),.p (.int .i64 i),.p (.int .i64 j),.lp [0] 0,.p byV] [([0],[.p (.int .i64 n)])]
  (fun x rs=>x=.tup [.p (.int .i64 i),.p (.int .i64 j)]∧rs=[([0],[.p (.int .i64 n)])]):=by
 have hi:i<l.length:=by omega
 have m1:=zp zZ l i hi
 have m2:=zp zZ l j hj
 have hc:=hU.cmp hij hi hj
 refine zx mixed 12 [] Tryz.func241 rfl (by kernel_rfl) rfl (by simp) (by simp) ?_
 simp[go_sem,Tryz.f241,zF,byV,m1,m2,hi,hj,zZ]
 refine⟨⟨rfl,by simp[Tryz.f107]⟩,zd [] (Uq l[j] l[i]) (by simp[go_sem,zS]) ⟨by simp[go_sem],by simp[go_sem,zZ]⟩ (by simp[go_sem]) ?_⟩
 rintro _ rs ⟨rfl,rfl⟩
 simp[go_sem,hc]
 exact zA [[0]] (.tup [.p (.int .i64 i),.p (.int .i64 j)]) ⟨rfl,by simp⟩ (by simp[go_sem,zf,leA,leT,leP]) ⟨rfl,by simp[go_sem]⟩
theorem zal [Gi](l:List Span)(i j k:Nat)(n:Int)(hU:Up l)(hij:i≤j)(hjk:j≤k)(hk:k<l.length):CR Tryz.prog 229 [[0]] [.p (zF l),.p (.int .i64 i),.p (.int .i64 j),.p (.int .i64 k),.lp [0] 0,.p byV] [([0],[.p (.int .i64 n)])]
  (fun x rs=>x=.p (.int .i64 j)∧rs=[([0],[.p (.int .i64 n)])]):=by
 refine zx mixed 14 [] Tryz.func229 rfl (by kernel_rfl) rfl (by simp) (by simp) ?_
 simp[go_sem,Tryz.f229]
 refine⟨⟨rfl,by simp[Tryz.f241]⟩,zd [([0],[0])] (UN l i j n hU hij (by omega)) (by simp[go_sem,zS]) ⟨by simp[go_sem],by simp[go_sem]⟩ (by simp[go_sem]) ?_⟩
 rintro _ rs ⟨rfl,rfl⟩
 simp[go_sem]
 refine⟨⟨rfl,by simp[Tryz.f241]⟩,zd [([0],[0])] (UN l j k n hU hjk hk) (by simp[go_sem,zS]) ⟨by simp[go_sem],by simp[go_sem]⟩ (by simp[go_sem]) ?_⟩
 rintro _ rs ⟨rfl,rfl⟩
 simp[go_sem]
 refine⟨⟨rfl,by simp[Tryz.f241]⟩,zd [([0],[0])] (UN l i j n hU hij (by omega)) (by simp[go_sem,zS]) ⟨by simp[go_sem],by simp[go_sem]⟩ (by simp[go_sem]) ?_⟩
 rintro _ rs ⟨rfl,rfl⟩
 simp[go_sem]
 exact zA [[0]] (.p (.int .i64 j)) ⟨rfl,by simp⟩ (by simp[go_sem,zf,leA,leT]) ⟨rfl,by simp[go_sem]⟩
theorem w9 [Gi](l:List Span)(i:Nat)(n:Int)(hU:Up l)(hi:1≤i)(hk:i+1<l.length)(hn:l.length<2^31):CR Tryz.prog 228 [[0]] [.p (zF l),.p (.int .i64 i),.lp [0] 0,.p byV] [([0],[.p (.int .i64 n)])]
  (fun x rs=>x=.p (.int .i64 i)∧rs=[([0],[.p (.int .i64 n)])]):=by
 have w1:IntKind.i64.wrap ((i:Int)-1)=((i-1:Nat):Int):=by rw[wrap64 (by omega) (by omega)];omega
 have w2:IntKind.i64.wrap ((i:Int)+1)=((i+1:Nat):Int):=by rw[wrap64 (by omega) (by omega)];omega
 refine zx mixed 9 [] Tryz.func228 rfl (by kernel_rfl) rfl (by simp) (by simp) ?_
 simp[go_sem,Tryz.f228,w1,w2]
 refine⟨⟨rfl,by simp[Tryz.f229]⟩,zd [([0],[0])] (zal l (i-1) i (i+1) n hU (by omega) (by omega) hk) (by simp[go_sem,zS]) ⟨by simp[go_sem],by simp[go_sem]⟩ (by simp[go_sem]) ?_⟩
 rintro _ rs ⟨rfl,rfl⟩
 simp[go_sem]
 exact zA [[0]] (.p (.int .i64 i)) ⟨rfl,by simp⟩ (by simp[go_sem,zf,leA,leT]) ⟨rfl,by simp[go_sem]⟩
structure QK(l:List Row):Prop where
 ne:l≠ []
 n:l.length<2^31
 p:∀x∈l,x.k=2→(0≤x.f∧x.f<1114112)∧(0≤x.a∧x.a<1114112)∧0≤x.b∧x.b<1114112
def qg(r:Int):Prop:= -2147483648≤r∧r<2147483648
def zdX(l:List Row)(r:Int):Option (Int×Int):=match rowAt l 2 r with
 |some x=>if x.a=0∧x.b=0 then none else some (x.a,x.b)
 |none=>none
theorem zhu {l:List Row} {k r:Int} {x:Row}(h:rowAt l k r=some x):x∈l∧x.k=k:=by
 unfold rowAt at h
 split at h
 ·cases h
 ·refine⟨List.mem_of_find?_eq_some h,?_⟩
  have:=List.find?_some h
  simp only[kL,Bool.and_eq_true,decide_eq_true_eq]at this
  exact this.1.1
theorem zk2 {l:List Row}(hl:QK l) {r:Int} {p:Int×Int}(h:zdX l r=some p):(0≤p.1∧p.1<1114112)∧0≤p.2∧p.2<1114112:=by
 unfold zdX at h
 split at h
 ·rename_i x hx
  obtain⟨h1,h2⟩:=zhu hx
  have:=hl.p x h1 h2
  split at h
  ·cases h
  ·injection h with h;subst h;exact this.2
 ·cases h
def zq8(l:List Row)(r:Int):Bool:=match zdX l r with
 |none=>false
 |some p=>decide (p.2=0) || decide (aL l 3 r=1) ||!decide (aL l 1 r=0) ||!decide (aL l 1 p.1=0)
def Ym(l:List Row)(x y:Int)(acc:Option Int)(w:Row):Option Int:=
 if w.k=2∧w.a=x∧w.b=y∧y≠0∧zdX l w.f=some (x,y)∧zq8 l w.f=false∧(∀z,acc=some z→w.f<z)then some w.f else acc
def znr(l:List Row)(x y:Int):Option Int:=l.foldl (Ym l x y) none
def zD(l:List Row)(i:Int):Int:=if 44032≤i∧i≤55203 then(if(i-44032)%28=0 then 12 else 13)else aL l 4 i
def Qa(l:List Row)(i:Int):Int:=if aL l 6 i≠0 then aL l 6 i else if(zD l i=4∨zD l i=5)∧i≠8204 then 3 else 0
theorem jT [Gi] {l:List Row}(hw:QK l) {i:Int}(hi:qg i):CR Tryz.prog 175 [] [.p (z6 l),.p (.int .i32 i)] [] (is (.p (.int .i64 (zD l i)))):=by
 refine zx mixed 5 [] Tryz.func175 rfl (by kernel_rfl) rfl (by simp) (by simp) ?_
 have hB:44032≤i→i≤55203→(i-44032).tmod 28=(i-44032)%28:=fun h1 _=>Int.tmod_eq_emod_of_nonneg (by omega)
 have w2:44032≤i→i≤55203→IntKind.i32.wrap (i-44032)=i-44032:=fun _ _=>by simp[IntKind.wrap,IntKind.signed,IntKind.bits];omega
 by_cases h1:44032≤i∧i≤55203
 ·have a1:(44032:Int)≤i:=by omega
  have a2:i≤55203:=by omega
  have a3:=hB h1.1 h1.2
  have w3:=w2 h1.1 h1.2
  generalize hm:(i-44032)%28=m at a3
  by_cases h2:m=0
  ·subst h2
   have e:zD l i=12:=by unfold zD;rw[if_pos h1,if_pos hm]
   rw[e]
   simp (maxSteps:=1000000) [go_sem,Tryz.f175,w3,a1,a2,a3]
   exact zg (.p (.int .i64 12)) rfl (by simp[go_sem,zf,leA,leT]) ⟨rfl,rfl⟩
  ·have e:zD l i=13:=by unfold zD;rw[if_pos h1,if_neg (by omega)]
   rw[e]
   simp (maxSteps:=1000000) [go_sem,Tryz.f175,w3,a1,a2,a3,h2]
   exact zg (.p (.int .i64 13)) rfl (by simp[go_sem,zf,leA,leT]) ⟨rfl,rfl⟩
 ·have e:zD l i=aL l 4 i:=by unfold zD;rw[if_neg h1]
  rw[e]
  by_cases a1:(44032:Int)≤i
  ·have a2:¬(i≤55203):=by omega
   simp (maxSteps:=1000000) [go_sem,Tryz.f175,a1,a2]
   refine⟨⟨rfl,by simp[Tryz.f194]⟩,zd [] (Wr l 4 i hw.n hi) (by simp[go_sem]) ⟨by simp[go_sem],by simp[go_sem]⟩ (by simp[go_sem]) ?_⟩
   rintro _ rs ⟨rfl,rfl⟩
   simp (maxSteps:=1000000) [go_sem]
   exact zg (.p (.int .i64 (aL l 4 i))) rfl (by simp[go_sem,zf,leA,leT]) ⟨rfl,rfl⟩
  ·simp (maxSteps:=1000000) [go_sem,Tryz.f175,a1]
   refine⟨⟨rfl,by simp[Tryz.f194]⟩,zd [] (Wr l 4 i hw.n hi) (by simp[go_sem]) ⟨by simp[go_sem],by simp[go_sem]⟩ (by simp[go_sem]) ?_⟩
   rintro _ rs ⟨rfl,rfl⟩
   simp (maxSteps:=1000000) [go_sem]
   exact zg (.p (.int .i64 (aL l 4 i))) rfl (by simp[go_sem,zf,leA,leT]) ⟨rfl,rfl⟩
theorem zgr [Gi] {l:List Row}(hw:QK l) {i:Int}(hi:qg i):CR Tryz.prog 215 [] [.p (z6 l),.p (.int .i32 i)] [] (is (.p (.int .i64 (Qa l i)))):=by
 refine zx mixed 7 [] Tryz.func215 rfl (by kernel_rfl) rfl (by simp) (by simp) ?_
 simp (maxSteps:=1000000) [go_sem,Tryz.f215]
 refine⟨⟨rfl,by simp[Tryz.f194]⟩,zd [] (Wr l 6 i hw.n hi) (by simp[go_sem]) ⟨by simp[go_sem],by simp[go_sem]⟩ (by simp[go_sem]) ?_⟩
 rintro _ rs ⟨rfl,rfl⟩
 simp (maxSteps:=1000000) [go_sem]
 by_cases h1:aL l 6 i=0
 ·simp (maxSteps:=1000000) [go_sem,h1]
  refine⟨⟨rfl,by simp[Tryz.f175]⟩,zd [] (jT hw hi) (by simp[go_sem]) ⟨by simp[go_sem],by simp[go_sem]⟩ (by simp[go_sem]) ?_⟩
  rintro _ rs ⟨rfl,rfl⟩
  have e:Qa l i=if(zD l i=4∨zD l i=5)∧i≠8204 then 3 else 0:=by unfold Qa;rw[if_neg (fun h=>h h1)]
  rw[e]
  generalize zD l i=v
  by_cases h2:(v=4∨v=5)∧i≠8204
  ·rw[if_pos h2]
   have h3:¬(i=8204):=by omega
   rcases h2.1 with rfl|rfl
   ·simp (maxSteps:=1000000) [go_sem,h3]
    exact zg (.p (.int .i64 3)) rfl (by simp[go_sem,zf,leA,leT]) ⟨rfl,rfl⟩
   ·simp (maxSteps:=1000000) [go_sem,h3]
    exact zg (.p (.int .i64 3)) rfl (by simp[go_sem,zf,leA,leT]) ⟨rfl,rfl⟩
  ·rw[if_neg h2]
   by_cases h4:v=4
   ·have h3:i=8204:=by omega
    simp (maxSteps:=1000000) [go_sem,h4,h3]
    exact zg (.p (.int .i64 0)) rfl (by simp[go_sem,zf,leA,leT]) ⟨rfl,rfl⟩
   ·by_cases h5:v=5
    ·have h3:i=8204:=by omega
     simp (maxSteps:=1000000) [go_sem,h5,h3]
     exact zg (.p (.int .i64 0)) rfl (by simp[go_sem,zf,leA,leT]) ⟨rfl,rfl⟩
    ·simp (maxSteps:=1000000) [go_sem,h4,h5]
     exact zg (.p (.int .i64 0)) rfl (by simp[go_sem,zf,leA,leT]) ⟨rfl,rfl⟩
 ·have e:Qa l i=aL l 6 i:=by unfold Qa;rw[if_pos h1]
  rw[e]
  simp (maxSteps:=1000000) [go_sem,h1]
  exact zg (.p (.int .i64 (aL l 6 i))) rfl (by simp[go_sem,zf,leA,leT]) ⟨rfl,rfl⟩
def QZ(a:Int):Bool:=decide (a=3) || (decide (a=1) || decide (a=2))
theorem zgv [Gi](a:Int):CR Tryz.prog 177 [] [.p (.int .i64 a)] [] (is (.p (.bool (QZ a)))):=by
 refine zx mixed 3 [] Tryz.func177 rfl (by kernel_rfl) rfl (by simp) (by simp) ?_
 by_cases a3:a=3
 ·simp (maxSteps:=1000000) [go_sem,Tryz.f177,a3]
  exact zg (.p (.bool (QZ a))) rfl (by simp[go_sem,zf,leA,leT,QZ,a3]) ⟨rfl,by first|rfl|simp[a3]⟩
 by_cases a1:a=1
 ·simp (maxSteps:=1000000) [go_sem,Tryz.f177,a1]
  exact zg (.p (.bool (QZ a))) rfl (by simp[go_sem,zf,leA,leT,QZ,a1]) ⟨rfl,by first|rfl|simp[a1]⟩
 by_cases a2:a=2
 ·simp (maxSteps:=1000000) [go_sem,Tryz.f177,a2]
  exact zg (.p (.bool (QZ a))) rfl (by simp[go_sem,zf,leA,leT,QZ,a2]) ⟨rfl,by first|rfl|simp[a2]⟩
 simp (maxSteps:=1000000) [go_sem,Tryz.f177,a3,a1,a2]
 exact zg (.p (.bool (QZ a))) rfl (by simp[go_sem,zf,leA,leT,QZ,a3,a1,a2]) ⟨rfl,by first|rfl|simp[a3,a1,a2]⟩
def Qi(a b:Int):Bool:=
 if a=9 then decide (b=9) || (decide (b=10) || (decide (b=12) || decide (b=13)))
 else if a=12∨a=10 then decide (b=10) || decide (b=11)
 else if a=13∨a=11 then decide (b=11)
 else false
theorem ziu [Gi](a b:Int):CR Tryz.prog 178 [] [.p (.int .i64 a),.p (.int .i64 b)] [] (is (.p (.bool (Qi a b)))):=by
 refine zx mixed 5 [] Tryz.func178 rfl (by kernel_rfl) rfl (by simp) (by simp) ?_
 by_cases a9:a=9
 ·by_cases b9:b=9
  ·simp (maxSteps:=1000000) [go_sem,Tryz.f178,a9,b9]
   exact zg (.p (.bool (Qi a b))) rfl (by simp[go_sem,zf,leA,leT,Qi,a9,b9]) ⟨rfl,by first|rfl|simp[a9,b9]⟩
  by_cases b10:b=10
  ·simp (maxSteps:=1000000) [go_sem,Tryz.f178,a9,b10]
   exact zg (.p (.bool (Qi a b))) rfl (by simp[go_sem,zf,leA,leT,Qi,a9,b10]) ⟨rfl,by first|rfl|simp[a9,b10]⟩
  by_cases b12:b=12
  ·simp (maxSteps:=1000000) [go_sem,Tryz.f178,a9,b12]
   exact zg (.p (.bool (Qi a b))) rfl (by simp[go_sem,zf,leA,leT,Qi,a9,b12]) ⟨rfl,by first|rfl|simp[a9,b12]⟩
  by_cases b13:b=13
  ·simp (maxSteps:=1000000) [go_sem,Tryz.f178,a9,b13]
   exact zg (.p (.bool (Qi a b))) rfl (by simp[go_sem,zf,leA,leT,Qi,a9,b13]) ⟨rfl,by first|rfl|simp[a9,b13]⟩
  simp (maxSteps:=1000000) [go_sem,Tryz.f178,a9,b9,b10,b12,b13]
  exact zg (.p (.bool (Qi a b))) rfl (by simp[go_sem,zf,leA,leT,Qi,a9,b9,b10,b12,b13]) ⟨rfl,by first|rfl|simp[a9]⟩
 by_cases a12:a=12
 ·by_cases b10:b=10
  ·simp (maxSteps:=1000000) [go_sem,Tryz.f178,a12,b10]
   exact zg (.p (.bool (Qi a b))) rfl (by simp[go_sem,zf,leA,leT,Qi,a12,b10]) ⟨rfl,by first|rfl|simp[a12,b10]⟩
  by_cases b11:b=11
  ·simp (maxSteps:=1000000) [go_sem,Tryz.f178,a12,b11]
   exact zg (.p (.bool (Qi a b))) rfl (by simp[go_sem,zf,leA,leT,Qi,a12,b11]) ⟨rfl,by first|rfl|simp[a12,b11]⟩
  simp (maxSteps:=1000000) [go_sem,Tryz.f178,a12,b10,b11]
  exact zg (.p (.bool (Qi a b))) rfl (by simp[go_sem,zf,leA,leT,Qi,a12,b10,b11]) ⟨rfl,by first|rfl|simp[a12]⟩
 by_cases a10:a=10
 ·by_cases b10:b=10
  ·simp (maxSteps:=1000000) [go_sem,Tryz.f178,a10,b10]
   exact zg (.p (.bool (Qi a b))) rfl (by simp[go_sem,zf,leA,leT,Qi,a10,b10]) ⟨rfl,by first|rfl|simp[a10,b10]⟩
  by_cases b11:b=11
  ·simp (maxSteps:=1000000) [go_sem,Tryz.f178,a10,b11]
   exact zg (.p (.bool (Qi a b))) rfl (by simp[go_sem,zf,leA,leT,Qi,a10,b11]) ⟨rfl,by first|rfl|simp[a10,b11]⟩
  simp (maxSteps:=1000000) [go_sem,Tryz.f178,a10,b10,b11]
  exact zg (.p (.bool (Qi a b))) rfl (by simp[go_sem,zf,leA,leT,Qi,a10,b10,b11]) ⟨rfl,by first|rfl|simp[a10]⟩
 by_cases a13:a=13
 ·by_cases b11:b=11
  ·simp (maxSteps:=1000000) [go_sem,Tryz.f178,a13,b11]
   exact zg (.p (.bool (Qi a b))) rfl (by simp[go_sem,zf,leA,leT,Qi,a13,b11]) ⟨rfl,by first|rfl|simp[a13,b11]⟩
  simp (maxSteps:=1000000) [go_sem,Tryz.f178,a13,b11]
  exact zg (.p (.bool (Qi a b))) rfl (by simp[go_sem,zf,leA,leT,Qi,a13,b11]) ⟨rfl,by first|rfl|simp[a13]⟩
 by_cases a11:a=11
 ·by_cases b11:b=11
  ·simp (maxSteps:=1000000) [go_sem,Tryz.f178,a11,b11]
   exact zg (.p (.bool (Qi a b))) rfl (by simp[go_sem,zf,leA,leT,Qi,a11,b11]) ⟨rfl,by first|rfl|simp[a11,b11]⟩
  simp (maxSteps:=1000000) [go_sem,Tryz.f178,a11,b11]
  exact zg (.p (.bool (Qi a b))) rfl (by simp[go_sem,zf,leA,leT,Qi,a11,b11]) ⟨rfl,by first|rfl|simp[a11]⟩
 simp (maxSteps:=1000000) [go_sem,Tryz.f178,a9,a12,a10,a13,a11]
 exact zg (.p (.bool (Qi a b))) rfl (by simp[go_sem,zf,leA,leT,Qi,a9,a12,a10,a13,a11]) ⟨rfl,by first|rfl|simp[a9,a12,a10,a13,a11]⟩
theorem zi2 [Gi](l:List Span)(hU:Up l)(h12:12<l.length)(hn:l.length<2^31):CR Tryz.prog 200 [] [.p (zF l),.p (.int .i64 0),.p (.int .i64 l.length),.p byV] []
  (fun x rs=>(∃p:Int,x=.tup [.p (.int .i64 p),.p (.int .i64 1)])∧rs=[]):=by
 obtain⟨q,hq⟩:∃q,q=l.length/4:=⟨_,rfl⟩
 obtain⟨r2,hr2⟩:∃r,r=q*2:=⟨_,rfl⟩
 obtain⟨r3,hr3⟩:∃r,r=q*3:=⟨_,rfl⟩
 have hq3:3≤q:=by omega
 have d1:(l.length:Int).tdiv 4=(q:Int):=by rw[hq];rfl
 have w0:IntKind.i64.wrap (l.length:Int)=l.length:=wrap64 (by omega) (by omega)
 have w1:IntKind.i64.wrap (q:Int)=q:=wrap64 (by omega) (by omega)
 have w2:IntKind.i64.wrap ((q:Int)*2)=(r2:Int):=by rw[wrap64 (by omega) (by omega)];omega
 have w3:IntKind.i64.wrap ((q:Int)*3)=(r3:Int):=by rw[wrap64 (by omega) (by omega)];omega
 have w5:IntKind.i64.wrap (r2:Int)=(r2:Int):=wrap64 (by omega) (by omega)
 have w6:IntKind.i64.wrap (r3:Int)=(r3:Int):=wrap64 (by omega) (by omega)
 have e8:(8:Int)≤(l.length:Int):=by omega
 refine zx mixed 15 [55] Tryz.func200 rfl (by kernel_rfl) rfl (by simp) (by simp) ?_
 simp (maxSteps:=1000000) [go_sem,Tryz.f200,d1,w0,w1,w2,w3,w5,w6,e8]
 refine Zp (fun _:Unit=>True) (fun _=>[(12,.p (.int .i64 q)),(13,.p (.int .i64 r2)),(14,.p (.int .i64 r3))]) (fun _=>[]) (zh (fun h=>?_) (fun h=>?_)) ?_
 ·simp (maxSteps:=1000000) [go_sem]
  refine⟨⟨rfl,by simp[Tryz.f228]⟩,zd [([0],[11])] (w9 l q 0 hU (by omega) (by omega) hn) (by simp[go_sem,zS]) ⟨by simp[go_sem],by simp[go_sem]⟩ (by simp[go_sem]) ?_⟩
  rintro _ rs ⟨rfl,rfl⟩
  simp (maxSteps:=1000000) [go_sem]
  refine⟨⟨rfl,by simp[Tryz.f228]⟩,zd [([0],[11])] (w9 l r2 0 hU (by omega) (by omega) hn) (by simp[go_sem,zS]) ⟨by simp[go_sem],by simp[go_sem]⟩ (by simp[go_sem]) ?_⟩
  rintro _ rs ⟨rfl,rfl⟩
  simp (maxSteps:=1000000) [go_sem]
  refine⟨⟨rfl,by simp[Tryz.f228]⟩,zd [([0],[11])] (w9 l r3 0 hU (by omega) (by omega) hn) (by simp[go_sem,zS]) ⟨by simp[go_sem],by simp[go_sem]⟩ (by simp[go_sem]) ?_⟩
  rintro _ rs ⟨rfl,rfl⟩
  simp (maxSteps:=1000000) [go_sem]
  exact zO () trivial (by simp[go_sem])
 ·simp (maxSteps:=1000000) [go_sem]
  exact zO () trivial (by simp[go_sem])
 ·rintro _ ts _
  simp (maxSteps:=1000000) [go_sem]
  refine⟨⟨rfl,by simp[Tryz.f229]⟩,zd [([0],[11])] (zal l q r2 r3 0 hU (by omega) (by omega) (by omega)) (by simp[go_sem,zS]) ⟨by simp[go_sem],by simp[go_sem]⟩ (by simp[go_sem]) ?_⟩
  rintro _ rs ⟨rfl,rfl⟩
  simp (maxSteps:=1000000) [go_sem]
  exact zA [] (.tup [.p (.int .i64 r2),.p (.int .i64 1)]) ⟨rfl,by simp⟩ (by simp[go_sem,zf,leA,leT,leP]) ⟨⟨_,rfl⟩,by simp[go_sem]⟩
theorem zaD [Gi](l:List Span)(hU:Up l)(hn:l.length<2^31):CR Tryz.prog 197 [] [.p (zF l),.p (.int .i64 0),.p (.int .i64 l.length),.p byV] [] (is (.tup [])):=by
 refine zK [200006] mixed 10 [] Tryz.func197 rfl (by kernel_rfl) rfl (by simp) (by simp) ?_
 simp (maxSteps:=1000000) [go_sem,Tryz.f197]
 refine zH (fun m:Nat=>m+1≤l.length∨m=0) (fun m=>[(8,.p (.int .i64 ((m:Int)+1)))]) (fun _=>[]) (fun m=>l.length-m) 0 (.inr rfl) (by simp[go_sem,LeS,leV,leR,leA,wrap64]) (fun m hm=>?_)
 simp (maxSteps:=1000000) [go_sem]
 refine zh (fun h=>?_) (fun h=>?_)
 ·simp (maxSteps:=1000000) [go_sem]
  have w1:IntKind.i64.wrap ((m:Int)+1+1)=(m:Int)+1+1:=wrap64 (by omega) (by omega)
  have w2:IntKind.i64.wrap (m:Int)=m:=wrap64 (by omega) (by omega)
  have hkl:m+1<l.length:=by omega
  have m1:=zp zZ l (m+1) hkl
  have m2:=zp zZ l m (by omega)
  have hc:=hU.cmp (i:=m) (j:=m+1) (by omega) (by omega) hkl
  have e0:(0:Int)< (m:Int)+1:=by omega
  have e1:(0:Int)≤(m:Int)+1:=by omega
  have e2:(m:Int)+1<l.length:=by omega
  have e3:m<l.length:=by omega
  have e4:((m:Int)+1).toNat=m+1:=by omega
  refine zH (fun _:Unit=>True) (fun _=>[(9,.p (.int .i64 ((m:Int)+1)))]) (fun _=>[]) (fun _=>0) () trivial (by simp[go_sem,LeS,leV,leR,leA]) (fun _ _=>?_)
  simp (maxSteps:=1000000) [go_sem,byV,zF,w2,m1,m2,e0,e1,e2,e3,e4,zZ]
  refine⟨⟨rfl,by simp[Tryz.f107]⟩,zd [] (Uq l[m+1] (l[m]'e3)) (by simp[go_sem]) ⟨by simp[go_sem],by simp[go_sem,zZ]⟩ (by simp[go_sem]) ?_⟩
  rintro _ rs ⟨rfl,rfl⟩
  simp (maxSteps:=1000000) [go_sem,hc,w1]
  exact zi (m+1) (.inl (by omega)) (by simp[go_sem,LeS,leV,leR,leA]) (by omega)
 ·simp (maxSteps:=1000000) [go_sem]
  exact zg (.tup []) rfl (by simp[go_sem,zf,leT,leP]) ⟨rfl,rfl⟩
theorem zeE [Gi](l:List Span)(hU:Up l)(h0:0<l.length)(hn:l.length<2^31):CR Tryz.prog 202 [] [.p (zF l),.p (.int .i64 0),.p (.int .i64 l.length),.p byV] [] (is (.p (.bool true))):=by
 refine zK [200011,200017,200023] mixed 13 [] Tryz.func202 rfl (by kernel_rfl) rfl (by simp) (by simp) ?_
 simp (maxSteps:=1000000) [go_sem,Tryz.f202]
 refine zH (fun _:Unit=>True) (fun _=>[]) (fun _=>[]) (fun _=>0) () trivial (by simp[go_sem,LeS,leV,leR,leA]) (fun _ _=>?_)
 simp (maxSteps:=1000000) [go_sem,wrap64]
 refine zH (fun m:Nat=>m+1≤l.length) (fun m=>[(9,.p (.int .i64 ((m:Int)+1)))]) (fun _=>[]) (fun m=>l.length-m) 0 (by omega) (by simp[go_sem,LeS,leV,leR,leA]) (fun m hm=>?_)
 have w1:IntKind.i64.wrap ((m:Int)+1+1)=(m:Int)+1+1:=wrap64 (by omega) (by omega)
 have w2:IntKind.i64.wrap (m:Int)=m:=wrap64 (by omega) (by omega)
 by_cases hkl:m+1<l.length
 ·have m1:=zp zZ l (m+1) hkl
  have m2:=zp zZ l m (by omega)
  have hc:=hU.cmp (i:=m) (j:=m+1) (by omega) (by omega) hkl
  have e1:(0:Int)≤(m:Int)+1:=by omega
  have e2:(m:Int)+1<l.length:=by omega
  have e3:m<l.length:=by omega
  have e4:((m:Int)+1).toNat=m+1:=by omega
  simp (maxSteps:=1000000) [go_sem,byV,zF,w2,m1,m2,e1,e2,e3,e4,zZ]
  refine⟨⟨rfl,by simp[Tryz.f107]⟩,zd [] (Uq l[m+1] (l[m]'e3)) (by simp[go_sem]) ⟨by simp[go_sem],by simp[go_sem,zZ]⟩ (by simp[go_sem]) ?_⟩
  rintro _ rs ⟨rfl,rfl⟩
  simp (maxSteps:=1000000) [go_sem,hc,w1]
  exact zi (m+1) (by omega) (by simp[go_sem,LeS,leV,leR,leA]) (by omega)
 ·have e2:¬(m:Int)+1<l.length:=by omega
  have e3:(m:Int)+1=l.length:=by omega
  simp (maxSteps:=1000000) [go_sem,e3]
  exact zg (.p (.bool true)) rfl (by simp[go_sem,zf,leA,leT]) ⟨rfl,rfl⟩
def WS:List UInt8:=[0,1,2,2,3,3,3,3,4,4,4,4,4,4,4,4,5,5,5,5,5,5,5,5,5,5,5,5,5,5,5,5,6,6,6,6,6,6,6,6,6,6,6,6,6,6,6,6,6,6,6,6,6,6,6,6,6,6,6,6,6,6,6,6,7,7,7,7,7,7,7,7,7,7,7,7,7,7,7,7,7,7,7,7,7,7,7,7,7,7,7,7,7,7,7,7,7,7,7,7,7,7,7,7,7,7,7,7,7,7,7,7,7,7,7,7,7,7,7,7,7,7,7,7,7,7,7,7,8,8,8,8,8,8,8,8,8,8,8,8,8,8,8,8,8,8,8,8,8,8,8,8,8,8,8,8,8,8,8,8,8,8,8,8,8,8,8,8,8,8,8,8,8,8,8,8,8,8,8,8,8,8,8,8,8,8,8,8,8,8,8,8,8,8,8,8,8,8,8,8,8,8,8,8,8,8,8,8,8,8,8,8,8,8,8,8,8,8,8,8,8,8,8,8,8,8,8,8,8,8,8,8,8,8,8,8,8,8,8,8,8,8,8,8,8,8,8,8,8,8,8,8,8,8,8,8]
theorem zhH:((List.range 256).all fun n=>n==0 || (decide (1≤(WS.getD n 0).toNat)&&decide ((WS.getD n 0).toNat≤8)))=true:=by decide
theorem zhL {n:Nat}(h1:1≤n)(h2:n<256):1≤u4 WS n∧u4 WS n≤8:=by
 have:=List.all_eq_true.1 zhH n (List.mem_range.2 h2)
 have hn:(n==0)=false:=by simp;omega
 rw[hn]at this
 simp only[Bool.false_or,Bool.and_eq_true,decide_eq_true_eq]at this
 unfold u4
 omega
theorem zke [Gi](n:Nat)(h1:1≤n)(h2:n<256):CR Tryz.prog 206 [] [.p (.int .u64 n)] [] (fun x rs=>(∃k:Int,k≠0∧x=.p (.int .i64 k))∧rs=[]):=by
 refine zx mixed 3 [] Tryz.func206 rfl (by kernel_rfl) rfl (by simp) (by simp) ?_
 have e1:¬(4294967296:Int)≤n:=by omega
 have e2:¬(65536:Int)≤n:=by omega
 have e3:¬(256:Int)≤n:=by omega
 have w:IntKind.u8.wrap (n:Int)=n:=by simp[IntKind.wrap,IntKind.signed,IntKind.bits];omega
 simp (maxSteps:=1000000) [go_sem,Tryz.f206,e1,e2,e3,w]
 have ht:=zhL h1 h2
 refine⟨by omega,zA [] (.p (.int .i64 (IntKind.i64.wrap (IntKind.i64.wrap (u4 WS n))))) ⟨rfl,by simp⟩ (by simp[go_sem,zf,leA,leT,WS]) ⟨⟨_,?_,rfl⟩,by simp[go_sem]⟩⟩
 rw[wrap64 (x:=u4 WS n) (by omega) (by omega),wrap64 (by omega) (by omega)]
 omega
theorem zn2 [Gi](n:Nat)(h1:1≤n)(h2:n<256):CR Tryz.prog 164 [] [.p (.int .u64 n)] [] (fun x rs=>(∃k:Int,k≠0∧x=.p (.int .i64 k))∧rs=[]):=by
 refine zx mixed 3 [] Tryz.func164 rfl (by kernel_rfl) rfl (by simp) (by simp) ?_
 simp (maxSteps:=1000000) [go_sem,Tryz.f164]
 refine⟨⟨rfl,by simp[Tryz.f206]⟩,zd [] (zke n h1 h2) (by simp[go_sem]) ⟨by simp[go_sem],by simp[go_sem]⟩ (by simp[go_sem]) ?_⟩
 rintro _ rs ⟨⟨k,hk,rfl⟩,rfl⟩
 simp (maxSteps:=1000000) [go_sem]
 exact zA [] (.p (.int .i64 k)) ⟨rfl,by simp⟩ (by simp[go_sem,zf,leA,leT]) ⟨⟨_,hk,rfl⟩,by simp[go_sem]⟩
theorem znW [Gi](l:List Span)(k:Int)(hk:k≠0)(hU:Up l)(hn:l.length<256):CR Tryz.prog 163 [] [.p (zF l),.p (.int .i64 0),.p (.int .i64 l.length),.p (.int .i64 k),.p byV] [] (is (.tup [])):=by
 have w0:IntKind.i64.wrap (l.length:Int)=l.length:=wrap64 (by omega) (by omega)
 refine zx mixed 21 [] Tryz.func163 rfl (by kernel_rfl) rfl (by simp) (by simp) ?_
 simp (maxSteps:=1000000) [go_sem,Tryz.f163]
 refine zH (fun _:Unit=>True) (fun _=>[]) (fun _=>[]) (fun _=>0) () trivial (by simp[go_sem,LeS,leV,leR,leA]) (fun _ _=>?_)
 simp (maxSteps:=1000000) [go_sem,w0]
 refine zh (fun h=>?_) (fun h=>?_)
 ·simp (maxSteps:=1000000) [go_sem]
  refine⟨⟨rfl,by simp[Tryz.f197]⟩,zd [] (zaD l hU (by omega)) (by simp[go_sem]) ⟨by simp[go_sem],by simp[go_sem]⟩ (by simp[go_sem]) ?_⟩
  rintro _ rs ⟨rfl,rfl⟩
  simp (maxSteps:=1000000) [go_sem]
  exact zg (.tup []) rfl (by simp[go_sem,zf,leT,leP]) ⟨rfl,rfl⟩
 ·simp (maxSteps:=1000000) [go_sem,hk]
  refine⟨⟨rfl,by simp[Tryz.f200]⟩,zd [] (zi2 l hU (by omega) (by omega)) (by simp[go_sem]) ⟨by simp[go_sem],by simp[go_sem]⟩ (by simp[go_sem]) ?_⟩
  rintro _ rs ⟨⟨p,rfl⟩,rfl⟩
  simp (maxSteps:=1000000) [go_sem]
  refine⟨⟨rfl,by simp[Tryz.f202]⟩,zd [] (zeE l hU (by omega) (by omega)) (by simp[go_sem]) ⟨by simp[go_sem],by simp[go_sem]⟩ (by simp[go_sem]) ?_⟩
  rintro _ rs ⟨rfl,rfl⟩
  simp (maxSteps:=1000000) [go_sem]
  exact zg (.tup []) rfl (by simp[go_sem,zf,leT,leP]) ⟨rfl,rfl⟩
theorem zlw [Gi](l:List Span)(hU:Up l)(h1:1≤l.length)(hn:l.length<256):CR Tryz.prog 110 [] [.p (zF l),.p byV] [] (is (.tup [])):=by
 have w0:IntKind.u64.wrap (l.length:Int)=l.length:=by simp[IntKind.wrap,IntKind.signed,IntKind.bits];omega
 refine zx mixed 5 [] Tryz.func110 rfl (by kernel_rfl) rfl (by simp) (by simp) ?_
 simp (maxSteps:=1000000) [go_sem,Tryz.f110,zF,w0]
 refine⟨⟨rfl,by simp[Tryz.f164]⟩,zd [] (zn2 l.length h1 hn) (by simp[go_sem]) ⟨by simp[go_sem],by simp[go_sem]⟩ (by simp[go_sem]) ?_⟩
 rintro _ rs ⟨⟨k,hk,rfl⟩,rfl⟩
 simp (maxSteps:=1000000) [go_sem]
 refine⟨⟨rfl,by simp[Tryz.f163]⟩,zd [] (znW l k hk hU hn) (by simp[go_sem]) ⟨by simp[go_sem],by simp[go_sem,zF]⟩ (by simp[go_sem]) ?_⟩
 rintro _ rs ⟨rfl,rfl⟩
 simp (maxSteps:=1000000) [go_sem]
 exact zg (.tup []) rfl (by simp[go_sem,zf,leT,leP]) ⟨rfl,rfl⟩
def vK(init:List Span)(o:Span):List Span→List Span
 | []=>init++[o]
 |s::l=>if o.t+1=s.f∧o.a=s.a∧o.b=s.b then vK init {o with t:=s.t} l else vK (init++[o]) s l
def ZR:List Span→List Span
 | []=>[]
 |s::l=>vK [] s l
def vR(s:Span):List AV:=[.p (.int .i64 s.f),.p (.int .i64 s.t),.p (.int .i64 s.a),.p (.int .i64 s.b)]
def Qd(l:List Span):List AV:=((l.map zZ).flatMap PV.cells).map .p
theorem wG(l:List Span):(Qd l).length=l.length*4:=by
 induction l with
 |nil=>rfl
 |cons s l ih=>
  simp[Qd,zZ,PV.cells]at ih⊢
  omega
theorem JD(l:List Span)(o:Span):Qd (l++[o])=Qd l++vR o:=by
 simp[Qd,vR,zZ,PV.cells]
theorem yA(l:List Span)(a b:Tok→Bool):(Qd l).map (AV.upd (AM.fil a b))=Qd l:=by
 unfold Qd
 rw[List.map_map]
 rfl
theorem zhC(o:Span)(a b:Tok→Bool):(vR o).map (AV.upd (AM.fil a b))=vR o:=rfl
theorem UQ(l:List Span)(o:Span)(j:Nat):(Qd l++vR o)[l.length*4+j]?=(vR o)[j]?:=by
 rw[←wG,List.getElem?_append_right (by omega)]
 congr 1
 omega
theorem zb3(l:List Span)(a b c d y:AV):zW (Qd l++[a,b,c,d]) (l.length*4+1) [y]=Qd l++[a,y,c,d]:=by
 have e:(Qd l).length=l.length*4:=wG l
 unfold zW
 rw[←e,List.take_length_add_append,List.length_singleton,Nat.add_assoc,List.drop_length_add_append]
 simp
theorem Xr(l:List Span)(a b c d y:AV):(Qd l++[a,b,c,d]).take (l.length*4+1)++y::(Qd l++[a,b,c,d]).drop (l.length*4+1+1)=Qd l++[a,y,c,d]:=by
 have:=zb3 l a b c d y
 simpa[zW]using this
def zf5(l:List Span)(k:Nat):Option (List Span×Span)→St
 |none=>{n:=61,nv:=10,vs:=[(3,.p (.opq (.slice none 0 0))),(7,.p (zF l)),(8,.p (.int .i64 l.length)),(9,.p (.int .i64 k))],ts:=[],rs:=[],rm:=[3,57,58]}
 |some (init,o)=>{n:=61,nv:=10,vs:=[(3,.la [58] 4 0 (init.length+1)),(7,.p (zF l)),(8,.p (.int .i64 l.length)),(9,.p (.int .i64 k))],ts:=[],rs:=[([58],Qd init++vR o)],rm:=[3,57,58]}
def zpF(l:List Span)(k:Nat):Option (List Span×Span)→Prop
 |none=>k=0
 |some (init,o)=>k≤l.length∧ZR l=vK init o (l.drop k)∧init.length<k∧ -1000000000≤o.t∧o.t≤1000000000
theorem zdT [Gi](l:List Span)(hn:l.length<2^31)(hb:∀s∈l, -1000000000≤s.t∧s.t≤1000000000):CR Tryz.prog 111 [] [.p (zF l)] [] (fun x rs=>(l=[]∧x=.p (.sl 4 [])∧rs=[])∨(0< (ZR l).length∧x=.la [58] 4 0 (ZR l).length∧rs=[([58],Qd (ZR l))])):=by
 refine uI [] mixed 10 [] Tryz.func111 rfl (by kernel_rfl) [3,57,58] rfl (by simp) (by simp) ?_
 simp (disch:=omega) [go_sem,Tryz.f111,zF]
 refine qM (fun i:Nat×Option (List Span×Span)=>zpF l i.1 i.2) (fun i=>zf5 l i.1 i.2) (fun i=>l.length-i.1) (0,none) rfl (by simp[go_sem,LeS,leV,leR,leA,zF,zf5]) ?_
 rintro⟨k,_|⟨init,o⟩⟩ hI
 ·have hk:k=0:=hI
  subst hk
  simp (disch:=omega) [go_sem,zf5,zF]
  refine zh (fun h=>?_) (fun h=>?_)
  ·have em:=zp zZ l 0 h
   have hx:=hb l[0] (List.getElem_mem h)
   have hl:l=l[0]::l.drop 1:=by
    have:=List.drop_eq_getElem_cons h
    simpa using this
   have hj:ZR l=vK [] l[0] (l.drop 1):=by
    conv=>lhs;rw[hl]
    rfl
   generalize l[0]=x at em hx hj
   simp (disch:=omega) [go_sem,em,h,zZ]
   refine⟨by decide,zi (1,some ([],x)) ⟨by show 1≤l.length;omega,hj,by simp,hx.1,hx.2⟩ ?_ ?_⟩
   ·simp[go_sem,LeS,leV,leR,leA,leL,Qd,vR]
    decide
   ·show l.length-1<l.length-0
    omega
  ·have hl:l=[]:=List.length_eq_zero_iff.1 (by omega)
   simp (disch:=omega) [go_sem]
   exact zA [] (.p (.sl 4 [])) ⟨rfl,by simp⟩ (by simp[go_sem,zf,leA,leT]) (.inl ⟨hl,rfl,rfl⟩)
 ·obtain⟨h1,h2,h3,h5,h6⟩:=hI
  simp only at h1 h2 h3
  simp (disch:=omega) [go_sem,zf5,zF]
  refine zh (fun h=>?_) (fun h=>?_)
  ·have em:=zp zZ l k h
   have w0:IntKind.i64.wrap (init.length:Int)=(init.length:Int):=wrap64 (by omega) (by omega)
   have w1:IntKind.i64.wrap (o.t+1)=o.t+1:=wrap64 (by omega) (by omega)
   have w2:IntKind.i64.wrap ((k:Int)+1)=(k:Int)+1:=wrap64 (by omega) (by omega)
   have g1:=UQ init o 1
   have g2:=UQ init o 2
   have g3:=UQ init o 3
   simp only[vR,List.getElem?_cons_succ,List.getElem?_cons_zero]at g1 g2 g3
   have hi:(init.length:Int)< (init.length:Int)+1:=by omega
   have hx:=hb l[k] (List.getElem_mem h)
   have hd:l.drop k=l[k]::l.drop (k+1):=List.drop_eq_getElem_cons h
   rw[hd,vK]at h2
   generalize l[k]=x at em hx h2
   simp (disch:=omega) [go_sem,em,h,zZ,w0,w1,yA,vR,g1,g2,g3,hi]
   refine zN (fun hc=>?_) (fun hc=>?_)
   ·have hc':o.t+1=x.f∧o.a=x.a∧o.b=x.b:=by
     simp at hc
     exact⟨hc.1.1,hc.1.2,hc.2⟩
    rw[if_pos hc']at h2
    simp (disch:=omega) [go_sem,w2,wG,hi]
    exact zi (k+1,some (init,{o with t:=x.t})) ⟨by show k+1≤l.length;omega,h2,by show init.length<k+1;omega,hx.1,hx.2⟩ (by simp[go_sem,LeS,leV,leR,leA,Xr,yA,zj]) (by show l.length- (k+1)<l.length-k;omega)
   ·have hc':¬(o.t+1=x.f∧o.a=x.a∧o.b=x.b):=by
     intro e
     simp[e]at hc
    rw[if_neg hc']at h2
    simp (disch:=omega) [go_sem,w2,yA,wG]
    refine⟨⟨by omega,by omega⟩,?_⟩
    exact zi (k+1,some (init++[o],x)) ⟨by show k+1≤l.length;omega,h2,by show(init++[o]).length<k+1;simp;omega,hx.1,hx.2⟩ (by simp[go_sem,LeS,leV,leR,leA,vR,JD,yA,zj]) (by show l.length- (k+1)<l.length-k;omega)
  ·have hk:k=l.length:=by omega
   subst hk
   simp (disch:=omega) [go_sem]
   rw[List.drop_length]at h2
   refine zA [[58]] (.la [58] 4 0 (ZR l).length) ⟨rfl,by simp⟩ (by simp[go_sem,zf,leA,leT,h2,vK]) ?_
   refine .inr ⟨by rw[h2];simp[vK],rfl,?_⟩
   simp[go_sem,yA,zhC,h2,vK,JD]
theorem zhV [Gi](l:List Span)(hn:l.length<2^31)(hb:∀s∈l, -1000000000≤s.t∧s.t≤1000000000):CR Tryz.prog 111 [] [.p (zF l)] [] (is (.p (zF (ZR l)))):=by
 refine CR.freeze (zdT l hn hb) (fun _=>false) rfl ?_
 rintro x rs (⟨rfl,rfl,rfl⟩|⟨h0,rfl,rfl⟩)
 ·refine⟨.p (.sl 4 []),fun g w v hG hv=>?_,rfl,rfl⟩
  rw[vX]at hv⊢
  exact zl.ext (uO hG _) _ _ hv
 ·refine⟨.p (zF (ZR l)),fun g w v hG hv=>?_,rfl,rfl⟩
  rw[vX]
  exact zb4 hG h0 (by simp[zn,Qd]) rfl (by simp) (fun e he=>by
   obtain⟨s,_,rfl⟩:=List.mem_map.1 he
   exact⟨rfl,rfl⟩) hv
structure Piece(α:Type)where
 f:Int
 t:Int
 v:α
def Zs {α:Type}(zero:α)(i:Int):List (Piece α)→Int→α×Int
 | [],last=>(zero,last)
 |p::l,last=>if p.f≤i∧i≤p.t then(p.v,min p.t last)else if i<p.f∧p.f≤last then Zs zero i l (p.f-1)else Zs zero i l last
def Wp(p:Piece Int):PV:=.agg [.int .i64 p.f,.int .i64 p.t,.int .i64 p.v]
def xp(l:List (Piece Int)):PV:=.sl 3 (l.map Wp)
theorem YR [Gi](l:List (Piece Int))(zero i last:Int)(hn:l.length<2^31)(hb:∀p∈l, -1000000000≤p.f∧p.f≤1000000000):
  CR Tryz.prog 154 [] [.p (xp l),.p (.int .i64 zero),.p (.int .i64 i),.p (.int .i64 last)] [] (is (.tup [.p (.int .i64 (Zs zero i l last).1),.p (.int .i64 (Zs zero i l last).2)])):=by
 refine zK [5] mixed 15 [] Tryz.func154 rfl (by kernel_rfl) rfl (by simp) (by simp) ?_
 simp (disch:=omega) [go_sem,Tryz.f154,xp]
 refine qM (fun k:Nat×Int=>k.1≤l.length∧Zs zero i l last=Zs zero i (l.drop k.1) k.2) (fun k=>{n:=52,nv:=15,vs:=[(1,.p (.int .i64 zero)),(2,.p (.int .i64 i)),(3,.p (.int .i64 k.2)),(8,.p (.int .i64 0)),(9,.p (.int .i64 0)),(12,.p (xp l)),(13,.p (.int .i64 l.length)),(14,.p (.int .i64 k.1))],ts:=[],rs:=[]}) (fun k=>l.length-k.1) (0,last) (by simp) (by simp[go_sem,LeS,leV,leR,leA,xp]) ?_
 rintro⟨k,la⟩ ⟨hk,hf⟩
 simp only at hk hf
 simp (disch:=omega) [go_sem,xp]
 refine zh (fun h=>?_) (fun h=>?_)
 ·have em:=zp Wp l k h
  have hd:l.drop k=l[k]::l.drop (k+1):=List.drop_eq_getElem_cons h
  have hx:=hb l[k] (List.getElem_mem h)
  have w2:IntKind.i64.wrap ((k:Int)+1)=(k:Int)+1:=wrap64 (by omega) (by omega)
  rw[hd,Zs]at hf
  generalize l[k]=x at em hx hf
  have w1:IntKind.i64.wrap (x.f-1)=x.f-1:=wrap64 (by omega) (by omega)
  simp (disch:=omega) [go_sem,em,h,Wp]
  refine zN (fun hc=>?_) (fun hc=>?_)
  ·have hc':x.f≤i∧i≤x.t:=by simpa using hc
   rw[if_pos hc']at hf
   simp (disch:=omega) [go_sem]
   exact zg (.tup [.p (.int .i64 x.v),.p (.int .i64 (min x.t la))]) rfl (by simp[go_sem,zf,leA]) ⟨rfl,by rw[hf]⟩
  ·have hc':¬(x.f≤i∧i≤x.t):=by intro e;simp[e]at hc
   rw[if_neg hc']at hf
   simp (disch:=omega) [go_sem]
   refine zN (fun hc2=>?_) (fun hc2=>?_)
   ·have hc3:i<x.f∧x.f≤la:=by simpa using hc2
    rw[if_pos hc3]at hf
    simp (disch:=omega) [go_sem,w1,w2]
    exact zi (k+1,x.f-1) ⟨by show k+1≤l.length;omega,hf⟩ (by simp[go_sem,LeS,leV,leR,leA]) (by show l.length- (k+1)<l.length-k;omega)
   ·have hc3:¬(i<x.f∧x.f≤la):=by intro e;simp[e]at hc2
    rw[if_neg hc3]at hf
    simp (disch:=omega) [go_sem,w2]
    exact zi (k+1,la) ⟨by show k+1≤l.length;omega,hf⟩ (by simp[go_sem,LeS,leV,leR,leA]) (by show l.length- (k+1)<l.length-k;omega)
 ·have hk':k=l.length:=by omega
  subst hk'
  rw[List.drop_length,Zs]at hf
  simp (disch:=omega) [go_sem]
  exact zg (.tup [.p (.int .i64 zero),.p (.int .i64 la)]) rfl (by simp[go_sem,zf,leA]) ⟨rfl,by rw[hf]⟩
end
end Go.Proofs.YtfjdbbpimklecaaGreatDoor
