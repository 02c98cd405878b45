/- A part of the proof of this seat's statements, by an abstract machine: what each operation does to values, and what the law's functions compute. Conditions: as each law says. -/
import Derived.Test.YthbmelihnabkaaaGreatW17
section
namespace Go.Proofs.YthbmelihnabkaaaGreat
open Go.AM
set_option maxHeartbeats 4000000
set_option maxRecDepth 10000
def jC(k r:Int)(x:Row):Bool:=decide (x.k=k)&&decide (x.f≤r)&&decide (r≤x.t)
def rowAt(l:List Row)(k r:Int):Option Row:=if r<0∨1114111<r then none else l.find? (jC k r)
def zoz(l:List Row)(k r j:Int):Prop:=(j= -1∧rowAt l k r=none)∨∃(i:Nat) (h:i<l.length),j=(i:Int)∧rowAt l k r=some l[i]
theorem zdv [Gi](l:List Row)(k r:Int)(hn:l.length<2^31):CR Tryz.prog 184 [] [.p (zJ l),.p (.int .i64 k),.p (.int .i64 r)] [] (fun x rs=>rs=[]∧∃j,x=.p (.int .i64 j)∧zoz l k r j):=by
 refine zn mixed 8 [] Tryz.func184 rfl (by kernel_rfl) rfl (by simp) (by simp) ?_
 by_cases h0:r<0
 ·simp[go_sem,Tryz.f184,h0]
  exact zg (.p (.int .i64 (-1))) rfl (by simp[go_sem,zd,leA,leT]) ⟨rfl, -1,rfl,.inl ⟨rfl,if_pos (.inl h0)⟩⟩
 by_cases h1:1114111<r
 ·simp[go_sem,Tryz.f184,h0,h1]
  exact zg (.p (.int .i64 (-1))) rfl (by simp[go_sem,zd,leA,leT]) ⟨rfl, -1,rfl,.inl ⟨rfl,if_pos (.inr h1)⟩⟩
 have hR:rowAt l k r=l.find? (jC k r):=if_neg (by omega)
 simp (maxSteps:=1000000) [go_sem,Tryz.f184,h0,h1,zJ]
 refine zm (fun i:Nat=>i≤l.length∧l.find? (jC k r)=(l.drop i).find? (jC k r)) (fun i=>[(7,.p (.int .i64 (i:Nat)))]) (fun _=>[]) (fun i=>l.length-i) 0 ⟨by omega,rfl⟩ (by simp[go_sem,LeS,leV,leR,leA]) (fun i hi=>?_)
 obtain⟨hi,hf⟩:=hi
 simp (maxSteps:=1000000) [go_sem]
 refine zw (fun h=>?_) (fun h=>?_)
 ·have hil:i<l.length:=by omega
  have em:=zt rowP l i hil
  have w1:IntKind.i64.wrap ((i:Int)+1)=((i+1:Nat):Int):=by rw[wrap64 (by omega) (by omega)];rfl
  have hd:l.drop i=l[i]::l.drop (i+1):=List.drop_eq_getElem_cons hil
  rw[hd,List.find?_cons]at hf
  have hsome:jC k r l[i]=true→rowAt l k r=some l[i]:=fun h2=>by rw[hR,hf,h2]
  have hnext:jC k r l[i]=false→l.find? (jC k r)=(l.drop (i+1)).find? (jC k r):=fun h2=>by rw[hf,h2]
  obtain⟨x,hx⟩:∃x,x=l[i]:=⟨_,rfl⟩
  rw[←hx]at em hsome hnext
  by_cases c1:x.k=k
  ·by_cases c2:x.f≤r
   ·by_cases c3:r≤x.t
    ·have hb:jC k r x=true:=by simp[jC,c1,c2,c3]
     simp (maxSteps:=1000000) [go_sem,em,hil,rowP,c1,c2,c3]
     exact zg (.p (.int .i64 i)) rfl (by simp[go_sem,zd,leA,leT]) ⟨rfl,i,rfl,.inr ⟨i,hil,rfl,by rw[hsome hb,hx]⟩⟩
    ·have hb:jC k r x=false:=by simp[jC,c3]
     simp (maxSteps:=1000000) [go_sem,em,hil,rowP,c1,c2,c3,w1]
     exact zf (i+1) ⟨by omega,hnext hb⟩ (by simp[go_sem,LeS,leV,leR,leA]) (by omega)
   ·have hb:jC k r x=false:=by simp[jC,c2]
    simp (maxSteps:=1000000) [go_sem,em,hil,rowP,c1,c2,w1]
    exact zf (i+1) ⟨by omega,hnext hb⟩ (by simp[go_sem,LeS,leV,leR,leA]) (by omega)
  ·have hb:jC k r x=false:=by simp[jC,c1]
   simp (maxSteps:=1000000) [go_sem,em,hil,rowP,c1,w1]
   exact zf (i+1) ⟨by omega,hnext hb⟩ (by simp[go_sem,LeS,leV,leR,leA]) (by omega)
 ·have hil:i=l.length:=by omega
  subst hil
  simp (maxSteps:=1000000) [go_sem]
  exact zg (.p (.int .i64 (-1))) rfl (by simp[go_sem,zd,leA,leT]) ⟨rfl, -1,rfl,.inl ⟨rfl,by rw[hR,hf];simp⟩⟩
def aL(l:List Row)(k r:Int):Int:=match rowAt l k r with
 |some x=>x.a
 |none=>0
theorem zoE [Gi](l:List Row)(k r:Int)(hn:l.length<2^31):CR Tryz.prog 199 [] [.p (zJ l),.p (.int .i64 k),.p (.int .i64 r)] [] (is (.p (.int .i64 (aL l k r)))):=by
 refine zn mixed 8 [] Tryz.func199 rfl (by kernel_rfl) rfl (by simp) (by simp) ?_
 simp[go_sem,Tryz.f199]
 refine⟨⟨rfl,by simp[Tryz.f184]⟩,zc [] (zdv l k r hn) (by simp[go_sem]) ⟨by simp[go_sem],by simp[go_sem]⟩ (by simp[go_sem]) ?_⟩
 rintro _ rs ⟨rfl,j,rfl,hj⟩
 rcases hj with ⟨rfl,hj⟩|⟨i,hi,rfl,hj⟩
 ·have e:aL l k r=0:=by unfold aL;rw[hj]
  rw[e]
  simp (maxSteps:=1000000) [go_sem]
  exact zg (.p (.int .i64 0)) rfl (by simp[go_sem,zd,leA,leT]) ⟨rfl,rfl⟩
 ·have e:aL l k r=l[i].a:=by unfold aL;rw[hj]
  rw[e]
  have em:=zt rowP l i hi
  generalize l[i]=x at em
  have h0:¬((i:Int)<0):=by omega
  simp (maxSteps:=1000000) [go_sem,em,hi,zJ,rowP,h0]
  exact zg (.p (.int .i64 x.a)) rfl (by simp[go_sem,zd,leA,leT]) ⟨rfl,rfl⟩
theorem xF [Gi](l:List Row)(k r:Int)(hn:l.length<2^31)(hr: -2147483648≤r∧r<2147483648):CR Tryz.prog 169 [] [.p (zJ l),.p (.int .i64 k),.p (.int .i32 r)] [] (is (.p (.int .i64 (aL l k r)))):=by
 refine zn mixed 7 [] Tryz.func169 rfl (by kernel_rfl) rfl (by simp) (by simp) ?_
 have w1:IntKind.i64.wrap r=r:=wrap64 (by omega) (by omega)
 simp[go_sem,Tryz.f169,w1]
 refine⟨⟨rfl,by simp[Tryz.f199]⟩,zc [] (zoE l k r hn) (by simp[go_sem]) ⟨by simp[go_sem],by simp[go_sem]⟩ (by simp[go_sem]) ?_⟩
 rintro _ rs ⟨rfl,rfl⟩
 simp[go_sem]
 exact zg (.p (.int .i64 (aL l k r))) rfl (by simp[go_sem,zd,leA,leT]) ⟨rfl,rfl⟩
theorem kA [Gi](l:List Row)(r:Int)(hn:l.length<2^31)(hr: -2147483648≤r∧r<2147483648):CR Tryz.prog 156 [] [.p (zJ l),.p (.int .i32 r)] [] (is (.p (.int .i64 (aL l 1 r)))):=by
 refine zn mixed 5 [] Tryz.func156 rfl (by kernel_rfl) rfl (by simp) (by simp) ?_
 simp[go_sem,Tryz.f156]
 refine⟨⟨rfl,by simp[Tryz.f169]⟩,zc [] (xF l 1 r hn hr) (by simp[go_sem]) ⟨by simp[go_sem],by simp[go_sem]⟩ (by simp[go_sem]) ?_⟩
 rintro _ rs ⟨rfl,rfl⟩
 simp[go_sem]
 exact zg (.p (.int .i64 (aL l 1 r))) rfl (by simp[go_sem,zd,leA,leT]) ⟨rfl,rfl⟩
end Go.Proofs.YthbmelihnabkaaaGreat
end
section
namespace Go.Proofs.YthbmelihnabkaaaGreat
open Go.AM
set_option maxHeartbeats 1000000
set_option maxRecDepth 10000
def za:List Row:=JG++zeS++zjL++zbc++zeL++zfl++zeT++YT
theorem zkZ [Gi](a b c d e f g h:List Row)(c0:CR Tryz.prog 38 [] [] [] (is (.p (zJ a))))(c1:CR Tryz.prog 39 [] [] [] (is (.p (zJ b))))(c2:CR Tryz.prog 40 [] [] [] (is (.p (zJ c))))(c3:CR Tryz.prog 41 [] [] [] (is (.p (zJ d))))(c4:CR Tryz.prog 42 [] [] [] (is (.p (zJ e))))(c5:CR Tryz.prog 43 [] [] [] (is (.p (zJ f))))(c6:CR Tryz.prog 44 [] [] [] (is (.p (zJ g))))(c7:CR Tryz.prog 45 [] [] [] (is (.p (zJ h))))(l0:a.length≤200)(l1:b.length≤200)(l2:c.length≤200)(l3:d.length≤200)(l4:e.length≤200)(l5:f.length≤200)(l6:g.length≤200)(l7:h.length≤200):
  CR Tryz.prog 9 [] [] [] (is (.p (zJ (a++b++c++d++e++f++g++h)))):=by
 refine zn mixed 2 [] Tryz.func9 rfl (by kernel_rfl) rfl (by simp) (by simp) ?_
 simp (disch:=omega) [go_sem,Tryz.f9]
 refine⟨⟨rfl,by simp[Tryz.f38]⟩,zc [] c0 (by simp[go_sem]) ⟨by simp[go_sem],by simp[go_sem]⟩ (by simp[go_sem]) ?_⟩
 rintro y rs ⟨rfl,rfl⟩
 simp (disch:=omega) [go_sem,zJ]
 refine⟨by omega,⟨rfl,by simp[Tryz.f39]⟩,zc [] c1 (by simp[go_sem]) ⟨by simp[go_sem],by simp[go_sem]⟩ (by simp[go_sem]) ?_⟩
 rintro y rs ⟨rfl,rfl⟩
 simp (disch:=omega) [go_sem,zJ]
 refine⟨by omega,⟨rfl,by simp[Tryz.f40]⟩,zc [] c2 (by simp[go_sem]) ⟨by simp[go_sem],by simp[go_sem]⟩ (by simp[go_sem]) ?_⟩
 rintro y rs ⟨rfl,rfl⟩
 simp (disch:=omega) [go_sem,zJ]
 refine⟨by omega,⟨rfl,by simp[Tryz.f41]⟩,zc [] c3 (by simp[go_sem]) ⟨by simp[go_sem],by simp[go_sem]⟩ (by simp[go_sem]) ?_⟩
 rintro y rs ⟨rfl,rfl⟩
 simp (disch:=omega) [go_sem,zJ]
 refine⟨by omega,⟨rfl,by simp[Tryz.f42]⟩,zc [] c4 (by simp[go_sem]) ⟨by simp[go_sem],by simp[go_sem]⟩ (by simp[go_sem]) ?_⟩
 rintro y rs ⟨rfl,rfl⟩
 simp (disch:=omega) [go_sem,zJ]
 refine⟨by omega,⟨rfl,by simp[Tryz.f43]⟩,zc [] c5 (by simp[go_sem]) ⟨by simp[go_sem],by simp[go_sem]⟩ (by simp[go_sem]) ?_⟩
 rintro y rs ⟨rfl,rfl⟩
 simp (disch:=omega) [go_sem,zJ]
 refine⟨by omega,⟨rfl,by simp[Tryz.f44]⟩,zc [] c6 (by simp[go_sem]) ⟨by simp[go_sem],by simp[go_sem]⟩ (by simp[go_sem]) ?_⟩
 rintro y rs ⟨rfl,rfl⟩
 simp (disch:=omega) [go_sem,zJ]
 refine⟨by omega,⟨rfl,by simp[Tryz.f45]⟩,zc [] c7 (by simp[go_sem]) ⟨by simp[go_sem],by simp[go_sem]⟩ (by simp[go_sem]) ?_⟩
 rintro y rs ⟨rfl,rfl⟩
 simp (disch:=omega) [go_sem,zJ]
 exact⟨by omega,zg (.p (zJ (a++b++c++d++e++f++g++h))) rfl (by simp[go_sem,zd,leA,zJ]) ⟨rfl,by simp[zJ]⟩⟩
theorem zfW [Gi]:CR Tryz.prog 9 [] [] [] (is (.p (zJ za))):=
 zkZ _ _ _ _ _ _ _ _ zex zke zkI zhE zkl zkq zjl zfI (by decide) (by decide) (by decide) (by decide) (by decide) (by decide) (by decide) (by decide)
def yV(l:List Int):PV:=.sl 1 (l.map fun r=>.int .i32 r)
theorem zm2 [Gi](l:List Int)(n:Nat)(_:n<2^31):CR Tryz.prog 8 [] [.p (yV l),.p (.int .i64 n)] [] (is (.p (yV (l.take n)))):=by
 refine zn mixed 5 [] Tryz.func8 rfl (by kernel_rfl) rfl (by simp) (by simp) ?_
 simp (disch:=omega) [go_sem,Tryz.f8,yV]
 refine zw (fun h=>?_) (fun h=>?_)
 ·simp (disch:=omega) [go_sem]
  exact⟨by omega,zg (.p (.sl 1 ((l.take n).map fun r=>PV.int .i32 r))) rfl (by simp[go_sem,zd,leA,cut,List.map_take]) ⟨rfl,by simp⟩⟩
 ·simp (disch:=omega) [go_sem]
  exact zg (.p (.sl 1 (l.map fun r=>PV.int .i32 r))) rfl (by simp[go_sem,zd,leA]) ⟨rfl,by rw[List.take_of_length_le (by simp;omega)]⟩
end Go.Proofs.YthbmelihnabkaaaGreat
end
section
namespace Go.Proofs.YthbmelihnabkaaaGreat
open Go.AM
set_option maxHeartbeats 1000000
set_option maxRecDepth 10000
structure Span where
 f:Int
 t:Int
 a:Int
 b:Int
 deriving DecidableEq
def z8(s:Span):PV:=.agg [.int .i64 s.f,.int .i64 s.t,.int .i64 s.a,.int .i64 s.b]
def zM(l:List Span):PV:=.sl 4 (l.map z8)
theorem zld [Gi](s:Span)(l:List Span)(h0:s.f≤s.t)(hl:∀x∈l,x.t<s.f)(hn:l.length<2^31):CR Tryz.prog 97 [] [.p (z8 s),.p (zM l)] [] (is (.p (zM [s]))):=by
 refine zn mixed 11 [] Tryz.func97 rfl (by kernel_rfl) rfl (by simp) (by simp) ?_
 simp (disch:=omega) [go_sem,Tryz.f97,z8,zM]
 refine xZ (fun i:Nat=>i≤l.length) (fun i=>{n:=59,nv:=11,vs:=[(2,.lp [2] 0),(5,.os [5] 4 []),(8,.p (zM l)),(9,.p (.int .i64 l.length)),(10,.p (.int .i64 i))],ts:=[],rs:=[([2],[.p (.int .i64 s.f),.p (.int .i64 s.t),.p (.int .i64 s.a),.p (.int .i64 s.b)])]}) (fun i=>l.length-i) 0 (by simp) (by simp[go_sem,LeS,leV,leR,leA,leL,zM]) ?_
 intro i hi
 simp (disch:=omega) [go_sem,zM]
 refine zw (fun h=>?_) (fun h=>?_)
 ·have em:=zt z8 l i h
  have hx:=hl l[i] (List.getElem_mem h)
  have w1:IntKind.i64.wrap ((i:Int)+1)=(i:Int)+1:=wrap64 (by omega) (by omega)
  generalize l[i]=x at em hx
  simp[go_sem,em,h,z8,hx,w1]
  exact zf (i+1) (by omega) (by simp[go_sem,LeS,leV,leR,leA,leL]) (by omega)
 ·simp[go_sem,h0]
  exact zg (.p (zM [s])) rfl (by simp[go_sem,zd,leA,zM,z8]) ⟨rfl,rfl⟩
end Go.Proofs.YthbmelihnabkaaaGreat
end
section
namespace Go.Proofs.YthbmelihnabkaaaGreat
open Go.AM
set_option maxHeartbeats 2000000
set_option maxRecDepth 10000
theorem zfP [Gi](x:Int):CR Tryz.prog 149 [] [.p (.int .i64 x)] [] (is (.p (.bool false))):=by
 refine zn mixed 3 [] Tryz.func149 rfl (by kernel_rfl) rfl (by simp) (by simp) ?_
 simp[go_sem,Tryz.f149]
 exact zg (.p (.bool false)) rfl (by simp[go_sem,zd,leA]) ⟨rfl,rfl⟩
def Wz(x y:Int):Int:=if x<y then -1 else if y<x then 1 else 0
theorem Jb [Gi](x y:Int):CR Tryz.prog 96 [] [.p (.int .i64 x),.p (.int .i64 y)] [] (is (.p (.int .i64 (Wz x y)))):=by
 refine zn mixed 7 [] Tryz.func96 rfl (by kernel_rfl) rfl (by simp) (by simp) ?_
 simp[go_sem,Tryz.f96]
 refine⟨⟨rfl,by simp[Tryz.f149]⟩,zc [] (zfP x) (by simp[go_sem]) ⟨by simp[go_sem],by simp[go_sem]⟩ (by simp[go_sem]) ?_⟩
 rintro _ rs ⟨rfl,rfl⟩
 simp[go_sem]
 refine⟨⟨rfl,by simp[Tryz.f149]⟩,zc [] (zfP y) (by simp[go_sem]) ⟨by simp[go_sem],by simp[go_sem]⟩ (by simp[go_sem]) ?_⟩
 rintro _ rs ⟨rfl,rfl⟩
 simp[go_sem]
 refine zw (fun h=>?_) (fun h=>?_)
 ·simp[go_sem]
  exact zg (.p (.int .i64 (-1))) rfl (by simp[go_sem,zd,leA]) ⟨rfl,by rw[Wz,if_pos h]⟩
 ·simp[go_sem]
  refine zw (fun h2=>?_) (fun h2=>?_)
  ·simp[go_sem]
   exact zg (.p (.int .i64 1)) rfl (by simp[go_sem,zd,leA]) ⟨rfl,by rw[Wz,if_neg h,if_pos h2]⟩
  ·simp[go_sem]
   exact zg (.p (.int .i64 0)) rfl (by simp[go_sem,zd,leA]) ⟨rfl,by rw[Wz,if_neg h,if_neg h2]⟩
theorem VQ [Gi](s t:Span):CR Tryz.prog 95 [] [.p (z8 s),.p (z8 t)] [] (is (.p (.int .i64 (Wz s.f t.f)))):=by
 refine zn mixed 5 [] Tryz.func95 rfl (by kernel_rfl) rfl (by simp) (by simp) ?_
 simp[go_sem,Tryz.f95,z8]
 refine⟨⟨rfl,by simp[Tryz.f96]⟩,zc [] (Jb s.f t.f) (by simp[go_sem]) ⟨by simp[go_sem],by simp[go_sem]⟩ (by simp[go_sem]) ?_⟩
 rintro _ rs ⟨rfl,rfl⟩
 simp[go_sem]
 exact zg (.p (.int .i64 (Wz s.f t.f))) rfl (by simp[go_sem,zd,leA]) ⟨rfl,rfl⟩
def byV:PV:=.opq (.func (.func 95) #[] #[])
def Up(l:List Span):Prop:=∀(i j:Nat) (x y:Span),i≤j→l[i]?=some x→l[j]?=some y→x.f≤y.f
theorem Up.cmp {l:List Span}(h:Up l) {i j:Nat}(hij:i≤j)(hi:i<l.length)(hj:j<l.length):¬Wz l[j].f l[i].f<0:=by
 have:=h i j l[i] l[j] hij (List.getElem?_eq_getElem hi) (List.getElem?_eq_getElem hj)
 unfold Wz
 rw[if_neg (by omega)]
 split<;>omega
theorem VN [Gi](l:List Span)(i j:Nat)(n:Int)(hU:Up l)(hij:i≤j)(hj:j<l.length):CR Tryz.prog 214 [[0]] [.p (zM l),.p (.int .i64 i),.p (.int .i64 j),.lp [0] 0,.p byV] [([0],[.p (.int .i64 n)])]
  (fun x rs=>x=.tup [.p (.int .i64 i),.p (.int .i64 j)]∧rs=[([0],[.p (.int .i64 n)])]):=by
 have hi:i<l.length:=by omega
 have m1:=zt z8 l i hi
 have m2:=zt z8 l j hj
 have hc:=hU.cmp hij hi hj
 refine zn mixed 12 [] Tryz.func214 rfl (by kernel_rfl) rfl (by simp) (by simp) ?_
 simp[go_sem,Tryz.f214,zM,byV,m1,m2,hi,hj,z8]
 refine⟨⟨rfl,by simp[Tryz.f95]⟩,zc [] (VQ l[j] l[i]) (by simp[go_sem,zE]) ⟨by simp[go_sem],by simp[go_sem,z8]⟩ (by simp[go_sem]) ?_⟩
 rintro _ rs ⟨rfl,rfl⟩
 simp[go_sem,hc]
 exact zi [[0]] (.tup [.p (.int .i64 i),.p (.int .i64 j)]) ⟨rfl,by simp⟩ (by simp[go_sem,zd,leA,leT,leP]) ⟨rfl,by simp[go_sem]⟩
theorem zar [Gi](l:List Span)(i j k:Nat)(n:Int)(hU:Up l)(hij:i≤j)(hjk:j≤k)(hk:k<l.length):CR Tryz.prog 206 [[0]] [.p (zM l),.p (.int .i64 i),.p (.int .i64 j),.p (.int .i64 k),.lp [0] 0,.p byV] [([0],[.p (.int .i64 n)])]
  (fun x rs=>x=.p (.int .i64 j)∧rs=[([0],[.p (.int .i64 n)])]):=by
 refine zn mixed 14 [] Tryz.func206 rfl (by kernel_rfl) rfl (by simp) (by simp) ?_
 simp[go_sem,Tryz.f206]
 refine⟨⟨rfl,by simp[Tryz.f214]⟩,zc [([0],[0])] (VN l i j n hU hij (by omega)) (by simp[go_sem,zE]) ⟨by simp[go_sem],by simp[go_sem]⟩ (by simp[go_sem]) ?_⟩
 rintro _ rs ⟨rfl,rfl⟩
 simp[go_sem]
 refine⟨⟨rfl,by simp[Tryz.f214]⟩,zc [([0],[0])] (VN l j k n hU hjk hk) (by simp[go_sem,zE]) ⟨by simp[go_sem],by simp[go_sem]⟩ (by simp[go_sem]) ?_⟩
 rintro _ rs ⟨rfl,rfl⟩
 simp[go_sem]
 refine⟨⟨rfl,by simp[Tryz.f214]⟩,zc [([0],[0])] (VN l i j n hU hij (by omega)) (by simp[go_sem,zE]) ⟨by simp[go_sem],by simp[go_sem]⟩ (by simp[go_sem]) ?_⟩
 rintro _ rs ⟨rfl,rfl⟩
 simp[go_sem]
 exact zi [[0]] (.p (.int .i64 j)) ⟨rfl,by simp⟩ (by simp[go_sem,zd,leA,leT]) ⟨rfl,by simp[go_sem]⟩
theorem wy [Gi](l:List Span)(i:Nat)(n:Int)(hU:Up l)(hi:1≤i)(hk:i+1<l.length)(hn:l.length<2^31):CR Tryz.prog 205 [[0]] [.p (zM l),.p (.int .i64 i),.lp [0] 0,.p byV] [([0],[.p (.int .i64 n)])]
  (fun x rs=>x=.p (.int .i64 i)∧rs=[([0],[.p (.int .i64 n)])]):=by
 have w1:IntKind.i64.wrap ((i:Int)-1)=((i-1:Nat):Int):=by rw[wrap64 (by omega) (by omega)];omega
 have w2:IntKind.i64.wrap ((i:Int)+1)=((i+1:Nat):Int):=by rw[wrap64 (by omega) (by omega)];omega
 refine zn mixed 9 [] Tryz.func205 rfl (by kernel_rfl) rfl (by simp) (by simp) ?_
 simp[go_sem,Tryz.f205,w1,w2]
 refine⟨⟨rfl,by simp[Tryz.f206]⟩,zc [([0],[0])] (zar l (i-1) i (i+1) n hU (by omega) (by omega) hk) (by simp[go_sem,zE]) ⟨by simp[go_sem],by simp[go_sem]⟩ (by simp[go_sem]) ?_⟩
 rintro _ rs ⟨rfl,rfl⟩
 simp[go_sem]
 exact zi [[0]] (.p (.int .i64 i)) ⟨rfl,by simp⟩ (by simp[go_sem,zd,leA,leT]) ⟨rfl,by simp[go_sem]⟩
end Go.Proofs.YthbmelihnabkaaaGreat
end
section
namespace Go.Proofs.YthbmelihnabkaaaGreat
open Go.AM
set_option maxHeartbeats 4000000
set_option maxRecDepth 10000
structure qX(l:List Row):Prop where
 ne:l≠ []
 n:l.length<2^31
 p:∀x∈l,x.k=2→(0≤x.f∧x.f<1114112)∧(0≤x.a∧x.a<1114112)∧0≤x.b∧x.b<1114112
theorem qX.first {l:List Row}(h:qX l):∃r,elemAt (l.map rowP) 0=rowP r:=by
 cases l with
 |nil=>exact absurd rfl h.ne
 |cons r l=>exact⟨r,rfl⟩
def zu(r:Int):Prop:= -2147483648≤r∧r<2147483648
def Za(l:List Row)(r:Int):Option (Int×Int):=match rowAt l 2 r with
 |some x=>if x.a=0∧x.b=0 then none else some (x.a,x.b)
 |none=>none
def yj(x:Option (Int×Int)):AV:=match x with
 |none=>.tup [.p (.int .i32 0),.p (.int .i32 0),.p (.bool false)]
 |some p=>.tup [.p (.int .i32 p.1),.p (.int .i32 p.2),.p (.bool true)]
theorem XW {l:List Row} {k r:Int} {x:Row}(h:rowAt l k r=some x):x∈l∧x.k=k:=by
 unfold rowAt at h
 split at h
 ·cases h
 ·refine⟨List.mem_of_find?_eq_some h,?_⟩
  have:=List.find?_some h
  simp only[jC,Bool.and_eq_true,decide_eq_true_eq]at this
  exact this.1.1
theorem VF {l:List Row}(hl:qX l) {r:Int} {p:Int×Int}(h:Za l r=some p):(0≤p.1∧p.1<1114112)∧0≤p.2∧p.2<1114112:=by
 unfold Za at h
 split at h
 ·rename_i x hx
  obtain⟨h1,h2⟩:=XW hx
  have:=hl.p x h1 h2
  split at h
  ·cases h
  ·injection h with h;subst h;exact this.2
 ·cases h
theorem Vt [Gi](l:List Row)(r:Int)(hl:qX l)(hr:zu r):CR Tryz.prog 155 [] [.p (zJ l),.p (.int .i32 r)] [] (is (yj (Za l r))):=by
 refine zS [4] mixed 8 [] Tryz.func155 rfl (by kernel_rfl) rfl (by simp) (by simp) ?_
 have w1:=uB hr
 simp (maxSteps:=1000000) [go_sem,Tryz.f155,w1]
 refine⟨⟨rfl,by simp[Tryz.f184]⟩,zc [] (zdv l 2 r hl.n) (by simp[go_sem]) ⟨by simp[go_sem],by simp[go_sem]⟩ (by simp[go_sem]) ?_⟩
 rintro _ rs ⟨rfl,j,rfl,hj⟩
 rcases hj with ⟨rfl,hj⟩|⟨i,hi,rfl,hj⟩
 ·have e:Za l r=none:=by unfold Za;rw[hj]
  rw[e]
  obtain⟨r0,em⟩:=hl.first
  simp (maxSteps:=1000000) [go_sem,zJ,em,rowP]
  exact zg (.tup [.p (.int .i32 0),.p (.int .i32 0),.p (.bool false)]) rfl (by simp[go_sem,zd,leA,leT,leP]) ⟨rfl,rfl⟩
 ·obtain⟨h1,h2⟩:=XW hj
  have hb:=hl.p _ h1 h2
  have e:Za l r=if l[i].a=0∧l[i].b=0 then none else some (l[i].a,l[i].b):=by unfold Za;rw[hj]
  rw[e]
  have em:=zt rowP l i hi
  generalize l[i]=x at em hb
  have h0:¬((i:Int)<0):=by omega
  have v1:IntKind.i32.wrap x.a=x.a:=ye (by omega)
  have v2:IntKind.i32.wrap x.b=x.b:=ye (by omega)
  by_cases c1:x.a=0
  ·by_cases c2:x.b=0
   ·rw[if_pos ⟨c1,c2⟩]
    simp (maxSteps:=1000000) [go_sem,em,hi,zJ,rowP,h0,c1,c2]
    exact zg (.tup [.p (.int .i32 0),.p (.int .i32 0),.p (.bool false)]) rfl (by simp[go_sem,zd,leA,leT,leP]) ⟨rfl,rfl⟩
   ·rw[if_neg (fun h=>c2 h.2)]
    simp (maxSteps:=1000000) [go_sem,em,hi,zJ,rowP,h0,c1,c2,v2,ye (x:=0)]
    exact zg (.tup [.p (.int .i32 0),.p (.int .i32 x.b),.p (.bool true)]) rfl (by simp[go_sem,zd,leA,leT,leP]) ⟨rfl,rfl⟩
  ·rw[if_neg (fun h=>c1 h.1)]
   simp (maxSteps:=1000000) [go_sem,em,hi,zJ,rowP,h0,c1,v1,v2]
   exact zg (.tup [.p (.int .i32 x.a),.p (.int .i32 x.b),.p (.bool true)]) rfl (by simp[go_sem,zd,leA,leT,leP]) ⟨rfl,rfl⟩
def yk(l:List Row)(r:Int):Bool:=match Za l r with
 |none=>false
 |some p=>decide (p.2=0) || decide (aL l 3 r=1) ||!decide (aL l 1 r=0) ||!decide (aL l 1 p.1=0)
theorem zbq [Gi](l:List Row)(r:Int)(hl:qX l)(hr:zu r):CR Tryz.prog 185 [] [.p (zJ l),.p (.int .i32 r)] [] (is (.p (.bool (yk l r)))):=by
 refine zn mixed 8 [] Tryz.func185 rfl (by kernel_rfl) rfl (by simp) (by simp) ?_
 simp (maxSteps:=1000000) [go_sem,Tryz.f185]
 refine⟨⟨rfl,by simp[Tryz.f155]⟩,zc [] (Vt l r hl hr) (by simp[go_sem]) ⟨by simp[go_sem],by simp[go_sem]⟩ (by simp[go_sem]) ?_⟩
 rintro _ rs ⟨rfl,rfl⟩
 cases hp:Za l r with
 |none=>
  have e:yk l r=false:=by unfold yk;rw[hp]
  simp (maxSteps:=1000000) [go_sem,yj]
  exact zg (.p (.bool (yk l r))) rfl (by simp[go_sem,zd,leA,leT,e]) ⟨rfl,rfl⟩
 |some p=>
  have hb:=VF hl hp
  have e:yk l r=(decide (p.2=0) || decide (aL l 3 r=1) ||!decide (aL l 1 r=0) ||!decide (aL l 1 p.1=0)):=by unfold yk;rw[hp]
  obtain⟨pa,pb⟩:=p
  simp only at e hb
  have hpa:zu pa:=⟨by omega,by omega⟩
  by_cases c1:pb=0
  ·simp (maxSteps:=1000000) [go_sem,yj,c1]
   exact zg (.p (.bool (yk l r))) rfl (by simp[go_sem,zd,leA,leT,e,c1]) ⟨rfl,rfl⟩
  ·simp (maxSteps:=1000000) [go_sem,yj,c1]
   refine⟨⟨rfl,by simp[Tryz.f169]⟩,zc [] (xF l 3 r hl.n hr) (by simp[go_sem]) ⟨by simp[go_sem],by simp[go_sem]⟩ (by simp[go_sem]) ?_⟩
   rintro _ rs ⟨rfl,rfl⟩
   by_cases c2:aL l 3 r=1
   ·simp (maxSteps:=1000000) [go_sem,c2]
    exact zg (.p (.bool (yk l r))) rfl (by simp[go_sem,zd,leA,leT,e,c2]) ⟨rfl,rfl⟩
   ·simp (maxSteps:=1000000) [go_sem,c2]
    refine⟨⟨rfl,by simp[Tryz.f169]⟩,zc [] (xF l 1 r hl.n hr) (by simp[go_sem]) ⟨by simp[go_sem],by simp[go_sem]⟩ (by simp[go_sem]) ?_⟩
    rintro _ rs ⟨rfl,rfl⟩
    by_cases c3:aL l 1 r=0
    ·simp (maxSteps:=1000000) [go_sem,c3]
     refine⟨⟨rfl,by simp[Tryz.f169]⟩,zc [] (xF l 1 pa hl.n hpa) (by simp[go_sem]) ⟨by simp[go_sem],by simp[go_sem]⟩ (by simp[go_sem]) ?_⟩
     rintro _ rs ⟨rfl,rfl⟩
     simp (maxSteps:=1000000) [go_sem]
     exact zg (.p (.bool (yk l r))) rfl (by simp[go_sem,zd,leA,leT,e,c1,c2,c3]) ⟨rfl,rfl⟩
    ·simp (maxSteps:=1000000) [go_sem,c3]
     exact zg (.p (.bool (yk l r))) rfl (by simp[go_sem,zd,leA,leT,e,c3]) ⟨rfl,rfl⟩
def ZS(l:List Row)(x y:Int)(acc:Option Int)(w:Row):Option Int:=
 if w.k=2∧w.a=x∧w.b=y∧y≠0∧Za l w.f=some (x,y)∧yk l w.f=false∧(∀z,acc=some z→w.f<z)then some w.f else acc
def xN(l:List Row)(x y:Int):Option Int:=l.foldl (ZS l x y) none
def qY(a:Option Int):Int:=match a with|some z=>z|none=>0
theorem zjw [Gi](l:List Row)(x y:Int)(hl:qX l)(hx:zu x)(hy:zu y):CR Tryz.prog 158 [] [.p (zJ l),.p (.int .i32 x),.p (.int .i32 y)] [] (is (.tup [.p (.int .i32 (qY (xN l x y))),.p (.bool (xN l x y).isSome)])):=by
 refine zn mixed 15 [] Tryz.func158 rfl (by kernel_rfl) rfl (by simp) (by simp) ?_
 have w1:=uB hx
 have w2:=uB hy
 have hn:=hl.n
 simp (maxSteps:=1000000) [go_sem,Tryz.f158,zJ]
 refine zm (fun i:Nat=>i≤l.length) (fun i=>[(10,.p (.int .i64 (i:Nat))),(8,.p (.int .i32 (qY ((l.take i).foldl (ZS l x y) none)))),(9,.p (.bool ((l.take i).foldl (ZS l x y) none).isSome)),(11,.zU),(12,.zU),(13,.zU),(14,.zU)]) (fun _=>[]) (fun i=>l.length-i) 0 (by omega) (by simp[go_sem,LeS,leV,leR,leA,qY]) (fun i hi=>?_)
 simp (maxSteps:=1000000) [go_sem]
 refine zw (fun h=>?_) (fun h=>?_)
 ·have hil:i<l.length:=by omega
  have em:=zt rowP l i hil
  have w3:IntKind.i64.wrap ((i:Int)+1)=((i+1:Nat):Int):=zN (by omega)
  have htk:(l.take (i+1)).foldl (ZS l x y) none=ZS l x y ((l.take i).foldl (ZS l x y) none) l[i]:=by
   rw[List.take_add_one,List.getElem?_eq_getElem hil,List.foldl_append];rfl
  have hrow:=hl.p l[i] (List.getElem_mem _)
  generalize l[i]=q at em htk hrow
  generalize (l.take i).foldl (ZS l x y) none=acc at htk
  have hskip:¬(q.k=2∧q.a=x∧q.b=y∧y≠0∧Za l q.f=some (x,y)∧yk l q.f=false∧∀z,acc=some z→q.f<z)→(l.take (i+1)).foldl (ZS l x y) none=acc:=fun h=>by rw[htk];exact if_neg h
  have hfr:q.k=2→IntKind.i32.wrap q.f=q.f:=fun h=>ye (by have:=hrow h;omega)
  by_cases c1:q.k=2
  ·have v1:=hfr c1
   have hqf:zu q.f:=⟨by have:=hrow c1;omega,by have:=hrow c1;omega⟩
   by_cases c2:q.a=x
   ·by_cases c3:q.b=y
    ·by_cases c4:y=0
     ·have hs:=hskip (fun h=>h.2.2.2.1 c4)
      simp (maxSteps:=1000000) [go_sem,em,hil,rowP,c1,c2,c3,c4,w1,w3,wrap64 (x:=0)]
      exact zf (i+1) (by omega) (by simp[go_sem,LeS,leV,leR,leA,hs,←c4]) (by omega)
     ·simp (maxSteps:=1000000) [go_sem,em,hil,rowP,c1,c2,c3,c4,w1,w2,v1]
      refine⟨⟨rfl,by simp[Tryz.f155]⟩,zc [] (Vt l q.f hl hqf) (by simp[go_sem]) ⟨by simp[go_sem],by simp[go_sem,zJ]⟩ (by simp[go_sem]) ?_⟩
      rintro _ rs ⟨rfl,rfl⟩
      cases hp:Za l q.f with
      |none=>
       have hs:=hskip (fun h=>by have:=h.2.2.2.2.1;rw[hp]at this;cases this)
       simp (maxSteps:=1000000) [go_sem,yj,w3]
       exact zf (i+1) (by omega) (by simp[go_sem,LeS,leV,leR,leA,hs]) (by omega)
      |some p=>
       obtain⟨pa,pb⟩:=p
       by_cases c5:pa=x
       ·by_cases c6:pb=y
        ·subst c5;subst c6
         simp (maxSteps:=1000000) [go_sem,yj,w3]
         refine⟨⟨rfl,by simp[Tryz.f185]⟩,zc [] (zbq l q.f hl hqf) (by simp[go_sem]) ⟨by simp[go_sem],by simp[go_sem,zJ]⟩ (by simp[go_sem]) ?_⟩
         rintro _ rs ⟨rfl,rfl⟩
         cases ho:yk l q.f with
         |true=>
          have hs:=hskip (fun h=>by have:=h.2.2.2.2.2.1;rw[ho]at this;cases this)
          cases acc with
          |none=>
           simp (maxSteps:=1000000) [go_sem,w3]
           exact zf (i+1) (by omega) (by simp[go_sem,LeS,leV,leR,leA,hs]) (by omega)
          |some z=>
           simp (maxSteps:=1000000) [go_sem,w3]
           exact zf (i+1) (by omega) (by simp[go_sem,LeS,leV,leR,leA,hs]) (by omega)
         |false=>
          cases acc with
          |none=>
           have hs:(l.take (i+1)).foldl (ZS l pa pb) none=some q.f:=by rw[htk];exact if_pos ⟨c1,c2,c3,c4,hp,ho,fun z h=>by cases h⟩
           simp (maxSteps:=1000000) [go_sem,w3]
           exact zf (i+1) (by omega) (by simp[go_sem,LeS,leV,leR,leA,hs,qY]) (by omega)
          |some z=>
           by_cases c7:q.f<z
           ·have hs:(l.take (i+1)).foldl (ZS l pa pb) none=some q.f:=by rw[htk];exact if_pos ⟨c1,c2,c3,c4,hp,ho,fun z' h=>by injection h with h;subst h;exact c7⟩
            simp (maxSteps:=1000000) [go_sem,w3,qY,c7]
            exact zf (i+1) (by omega) (by simp[go_sem,LeS,leV,leR,leA,hs]) (by omega)
           ·have hs:=hskip (fun h=>c7 (h.2.2.2.2.2.2 z rfl))
            simp (maxSteps:=1000000) [go_sem,w3,qY,c7]
            exact zf (i+1) (by omega) (by simp[go_sem,LeS,leV,leR,leA,hs]) (by omega)
        ·have hs:=hskip (fun h=>by have:=h.2.2.2.2.1;rw[hp]at this;injection this with this;injection this with _ h2;exact c6 h2)
         simp (maxSteps:=1000000) [go_sem,yj,w3,c5,c6]
         exact zf (i+1) (by omega) (by simp[go_sem,LeS,leV,leR,leA,hs]) (by omega)
       ·have hs:=hskip (fun h=>by have:=h.2.2.2.2.1;rw[hp]at this;injection this with this;injection this with h2 _;exact c5 h2)
        simp (maxSteps:=1000000) [go_sem,yj,w3,c5]
        exact zf (i+1) (by omega) (by simp[go_sem,LeS,leV,leR,leA,hs]) (by omega)
    ·have hs:=hskip (fun h=>c3 h.2.2.1)
     simp (maxSteps:=1000000) [go_sem,em,hil,rowP,c1,c2,c3,w1,w2,w3]
     exact zf (i+1) (by omega) (by simp[go_sem,LeS,leV,leR,leA,hs]) (by omega)
   ·have hs:=hskip (fun h=>c2 h.2.1)
    simp (maxSteps:=1000000) [go_sem,em,hil,rowP,c1,c2,w1,w2,w3]
    exact zf (i+1) (by omega) (by simp[go_sem,LeS,leV,leR,leA,hs]) (by omega)
  ·have hs:=hskip (fun h=>c1 h.1)
   simp (maxSteps:=1000000) [go_sem,em,hil,rowP,c1,w1,w2,w3]
   exact zf (i+1) (by omega) (by simp[go_sem,LeS,leV,leR,leA,hs]) (by omega)
 ·have hil:i=l.length:=by omega
  subst hil
  rw[List.take_length]
  simp (maxSteps:=1000000) [go_sem]
  exact zg (.tup [.p (.int .i32 (qY (xN l x y))),.p (.bool (xN l x y).isSome)]) rfl (by simp[go_sem,zd,leA,leT,leP,xN]) ⟨rfl,rfl⟩
end Go.Proofs.YthbmelihnabkaaaGreat
end
section
namespace Go.Proofs.YthbmelihnabkaaaGreat
open Go.AM
set_option maxHeartbeats 4000000
set_option maxRecDepth 10000
def zL(l:List Row)(i:Int):Int:=if 44032≤i∧i≤55203 then(if(i-44032)%28=0 then 12 else 13)else aL l 4 i
def ZI(l:List Row)(i:Int):Int:=if aL l 6 i≠0 then aL l 6 i else if(zL l i=4∨zL l i=5)∧i≠8204 then 3 else 0
theorem wz [Gi] {l:List Row}(hw:qX l) {i:Int}(hi:zu i):CR Tryz.prog 125 [] [.p (zJ l),.p (.int .i32 i)] [] (is (.p (.int .i64 (zL l i)))):=by
 refine zn mixed 5 [] Tryz.func125 rfl (by kernel_rfl) rfl (by simp) (by simp) ?_
 have hB:44032≤i→i≤55203→(i-44032).tmod 28=(i-44032)%28:=fun h1 _=>Int.tmod_eq_emod_of_nonneg (by omega)
 have w2:44032≤i→i≤55203→IntKind.i32.wrap (i-44032)=i-44032:=fun _ _=>by simp[IntKind.wrap,IntKind.signed,IntKind.bits];omega
 by_cases h1:44032≤i∧i≤55203
 ·have a1:(44032:Int)≤i:=by omega
  have a2:i≤55203:=by omega
  have a3:=hB h1.1 h1.2
  have w3:=w2 h1.1 h1.2
  generalize hm:(i-44032)%28=m at a3
  by_cases h2:m=0
  ·subst h2
   have e:zL l i=12:=by unfold zL;rw[if_pos h1,if_pos hm]
   rw[e]
   simp (maxSteps:=1000000) [go_sem,Tryz.f125,w3,a1,a2,a3]
   exact zg (.p (.int .i64 12)) rfl (by simp[go_sem,zd,leA,leT]) ⟨rfl,rfl⟩
  ·have e:zL l i=13:=by unfold zL;rw[if_pos h1,if_neg (by omega)]
   rw[e]
   simp (maxSteps:=1000000) [go_sem,Tryz.f125,w3,a1,a2,a3,h2]
   exact zg (.p (.int .i64 13)) rfl (by simp[go_sem,zd,leA,leT]) ⟨rfl,rfl⟩
 ·have e:zL l i=aL l 4 i:=by unfold zL;rw[if_neg h1]
  rw[e]
  by_cases a1:(44032:Int)≤i
  ·have a2:¬(i≤55203):=by omega
   simp (maxSteps:=1000000) [go_sem,Tryz.f125,a1,a2]
   refine⟨⟨rfl,by simp[Tryz.f169]⟩,zc [] (xF l 4 i hw.n hi) (by simp[go_sem]) ⟨by simp[go_sem],by simp[go_sem]⟩ (by simp[go_sem]) ?_⟩
   rintro _ rs ⟨rfl,rfl⟩
   simp (maxSteps:=1000000) [go_sem]
   exact zg (.p (.int .i64 (aL l 4 i))) rfl (by simp[go_sem,zd,leA,leT]) ⟨rfl,rfl⟩
  ·simp (maxSteps:=1000000) [go_sem,Tryz.f125,a1]
   refine⟨⟨rfl,by simp[Tryz.f169]⟩,zc [] (xF l 4 i hw.n hi) (by simp[go_sem]) ⟨by simp[go_sem],by simp[go_sem]⟩ (by simp[go_sem]) ?_⟩
   rintro _ rs ⟨rfl,rfl⟩
   simp (maxSteps:=1000000) [go_sem]
   exact zg (.p (.int .i64 (aL l 4 i))) rfl (by simp[go_sem,zd,leA,leT]) ⟨rfl,rfl⟩
theorem zgj [Gi] {l:List Row}(hw:qX l) {i:Int}(hi:zu i):CR Tryz.prog 170 [] [.p (zJ l),.p (.int .i32 i)] [] (is (.p (.int .i64 (ZI l i)))):=by
 refine zn mixed 7 [] Tryz.func170 rfl (by kernel_rfl) rfl (by simp) (by simp) ?_
 simp (maxSteps:=1000000) [go_sem,Tryz.f170]
 refine⟨⟨rfl,by simp[Tryz.f169]⟩,zc [] (xF l 6 i hw.n hi) (by simp[go_sem]) ⟨by simp[go_sem],by simp[go_sem]⟩ (by simp[go_sem]) ?_⟩
 rintro _ rs ⟨rfl,rfl⟩
 simp (maxSteps:=1000000) [go_sem]
 by_cases h1:aL l 6 i=0
 ·simp (maxSteps:=1000000) [go_sem,h1]
  refine⟨⟨rfl,by simp[Tryz.f125]⟩,zc [] (wz hw hi) (by simp[go_sem]) ⟨by simp[go_sem],by simp[go_sem]⟩ (by simp[go_sem]) ?_⟩
  rintro _ rs ⟨rfl,rfl⟩
  have e:ZI l i=if(zL l i=4∨zL l i=5)∧i≠8204 then 3 else 0:=by unfold ZI;rw[if_neg (fun h=>h h1)]
  rw[e]
  generalize zL l i=v
  by_cases h2:(v=4∨v=5)∧i≠8204
  ·rw[if_pos h2]
   have h3:¬(i=8204):=by omega
   rcases h2.1 with rfl|rfl
   ·simp (maxSteps:=1000000) [go_sem,h3]
    exact zg (.p (.int .i64 3)) rfl (by simp[go_sem,zd,leA,leT]) ⟨rfl,rfl⟩
   ·simp (maxSteps:=1000000) [go_sem,h3]
    exact zg (.p (.int .i64 3)) rfl (by simp[go_sem,zd,leA,leT]) ⟨rfl,rfl⟩
  ·rw[if_neg h2]
   by_cases h4:v=4
   ·have h3:i=8204:=by omega
    simp (maxSteps:=1000000) [go_sem,h4,h3]
    exact zg (.p (.int .i64 0)) rfl (by simp[go_sem,zd,leA,leT]) ⟨rfl,rfl⟩
   ·by_cases h5:v=5
    ·have h3:i=8204:=by omega
     simp (maxSteps:=1000000) [go_sem,h5,h3]
     exact zg (.p (.int .i64 0)) rfl (by simp[go_sem,zd,leA,leT]) ⟨rfl,rfl⟩
    ·simp (maxSteps:=1000000) [go_sem,h4,h5]
     exact zg (.p (.int .i64 0)) rfl (by simp[go_sem,zd,leA,leT]) ⟨rfl,rfl⟩
 ·have e:ZI l i=aL l 6 i:=by unfold ZI;rw[if_pos h1]
  rw[e]
  simp (maxSteps:=1000000) [go_sem,h1]
  exact zg (.p (.int .i64 (aL l 6 i))) rfl (by simp[go_sem,zd,leA,leT]) ⟨rfl,rfl⟩
def QZ(a:Int):Bool:=decide (a=3) || (decide (a=1) || decide (a=2))
theorem zf0 [Gi](a:Int):CR Tryz.prog 126 [] [.p (.int .i64 a)] [] (is (.p (.bool (QZ a)))):=by
 refine zn mixed 3 [] Tryz.func126 rfl (by kernel_rfl) rfl (by simp) (by simp) ?_
 by_cases a3:a=3
 ·simp (maxSteps:=1000000) [go_sem,Tryz.f126,a3]
  exact zg (.p (.bool (QZ a))) rfl (by simp[go_sem,zd,leA,leT,QZ,a3]) ⟨rfl,by first|rfl|simp[a3]⟩
 by_cases a1:a=1
 ·simp (maxSteps:=1000000) [go_sem,Tryz.f126,a1]
  exact zg (.p (.bool (QZ a))) rfl (by simp[go_sem,zd,leA,leT,QZ,a1]) ⟨rfl,by first|rfl|simp[a1]⟩
 by_cases a2:a=2
 ·simp (maxSteps:=1000000) [go_sem,Tryz.f126,a2]
  exact zg (.p (.bool (QZ a))) rfl (by simp[go_sem,zd,leA,leT,QZ,a2]) ⟨rfl,by first|rfl|simp[a2]⟩
 simp (maxSteps:=1000000) [go_sem,Tryz.f126,a3,a1,a2]
 exact zg (.p (.bool (QZ a))) rfl (by simp[go_sem,zd,leA,leT,QZ,a3,a1,a2]) ⟨rfl,by first|rfl|simp[a3,a1,a2]⟩
def QD(a b:Int):Bool:=
 if a=9 then decide (b=9) || (decide (b=10) || (decide (b=12) || decide (b=13)))
 else if a=12∨a=10 then decide (b=10) || decide (b=11)
 else if a=13∨a=11 then decide (b=11)
 else false
theorem zhb [Gi](a b:Int):CR Tryz.prog 127 [] [.p (.int .i64 a),.p (.int .i64 b)] [] (is (.p (.bool (QD a b)))):=by
 refine zn mixed 5 [] Tryz.func127 rfl (by kernel_rfl) rfl (by simp) (by simp) ?_
 by_cases a9:a=9
 ·by_cases b9:b=9
  ·simp (maxSteps:=1000000) [go_sem,Tryz.f127,a9,b9]
   exact zg (.p (.bool (QD a b))) rfl (by simp[go_sem,zd,leA,leT,QD,a9,b9]) ⟨rfl,by first|rfl|simp[a9,b9]⟩
  by_cases b10:b=10
  ·simp (maxSteps:=1000000) [go_sem,Tryz.f127,a9,b10]
   exact zg (.p (.bool (QD a b))) rfl (by simp[go_sem,zd,leA,leT,QD,a9,b10]) ⟨rfl,by first|rfl|simp[a9,b10]⟩
  by_cases b12:b=12
  ·simp (maxSteps:=1000000) [go_sem,Tryz.f127,a9,b12]
   exact zg (.p (.bool (QD a b))) rfl (by simp[go_sem,zd,leA,leT,QD,a9,b12]) ⟨rfl,by first|rfl|simp[a9,b12]⟩
  by_cases b13:b=13
  ·simp (maxSteps:=1000000) [go_sem,Tryz.f127,a9,b13]
   exact zg (.p (.bool (QD a b))) rfl (by simp[go_sem,zd,leA,leT,QD,a9,b13]) ⟨rfl,by first|rfl|simp[a9,b13]⟩
  simp (maxSteps:=1000000) [go_sem,Tryz.f127,a9,b9,b10,b12,b13]
  exact zg (.p (.bool (QD a b))) rfl (by simp[go_sem,zd,leA,leT,QD,a9,b9,b10,b12,b13]) ⟨rfl,by first|rfl|simp[a9]⟩
 by_cases a12:a=12
 ·by_cases b10:b=10
  ·simp (maxSteps:=1000000) [go_sem,Tryz.f127,a12,b10]
   exact zg (.p (.bool (QD a b))) rfl (by simp[go_sem,zd,leA,leT,QD,a12,b10]) ⟨rfl,by first|rfl|simp[a12,b10]⟩
  by_cases b11:b=11
  ·simp (maxSteps:=1000000) [go_sem,Tryz.f127,a12,b11]
   exact zg (.p (.bool (QD a b))) rfl (by simp[go_sem,zd,leA,leT,QD,a12,b11]) ⟨rfl,by first|rfl|simp[a12,b11]⟩
  simp (maxSteps:=1000000) [go_sem,Tryz.f127,a12,b10,b11]
  exact zg (.p (.bool (QD a b))) rfl (by simp[go_sem,zd,leA,leT,QD,a12,b10,b11]) ⟨rfl,by first|rfl|simp[a12]⟩
 by_cases a10:a=10
 ·by_cases b10:b=10
  ·simp (maxSteps:=1000000) [go_sem,Tryz.f127,a10,b10]
   exact zg (.p (.bool (QD a b))) rfl (by simp[go_sem,zd,leA,leT,QD,a10,b10]) ⟨rfl,by first|rfl|simp[a10,b10]⟩
  by_cases b11:b=11
  ·simp (maxSteps:=1000000) [go_sem,Tryz.f127,a10,b11]
   exact zg (.p (.bool (QD a b))) rfl (by simp[go_sem,zd,leA,leT,QD,a10,b11]) ⟨rfl,by first|rfl|simp[a10,b11]⟩
  simp (maxSteps:=1000000) [go_sem,Tryz.f127,a10,b10,b11]
  exact zg (.p (.bool (QD a b))) rfl (by simp[go_sem,zd,leA,leT,QD,a10,b10,b11]) ⟨rfl,by first|rfl|simp[a10]⟩
 by_cases a13:a=13
 ·by_cases b11:b=11
  ·simp (maxSteps:=1000000) [go_sem,Tryz.f127,a13,b11]
   exact zg (.p (.bool (QD a b))) rfl (by simp[go_sem,zd,leA,leT,QD,a13,b11]) ⟨rfl,by first|rfl|simp[a13,b11]⟩
  simp (maxSteps:=1000000) [go_sem,Tryz.f127,a13,b11]
  exact zg (.p (.bool (QD a b))) rfl (by simp[go_sem,zd,leA,leT,QD,a13,b11]) ⟨rfl,by first|rfl|simp[a13]⟩
 by_cases a11:a=11
 ·by_cases b11:b=11
  ·simp (maxSteps:=1000000) [go_sem,Tryz.f127,a11,b11]
   exact zg (.p (.bool (QD a b))) rfl (by simp[go_sem,zd,leA,leT,QD,a11,b11]) ⟨rfl,by first|rfl|simp[a11,b11]⟩
  simp (maxSteps:=1000000) [go_sem,Tryz.f127,a11,b11]
  exact zg (.p (.bool (QD a b))) rfl (by simp[go_sem,zd,leA,leT,QD,a11,b11]) ⟨rfl,by first|rfl|simp[a11]⟩
 simp (maxSteps:=1000000) [go_sem,Tryz.f127,a9,a12,a10,a13,a11]
 exact zg (.p (.bool (QD a b))) rfl (by simp[go_sem,zd,leA,leT,QD,a9,a12,a10,a13,a11]) ⟨rfl,by first|rfl|simp[a9,a12,a10,a13,a11]⟩
end Go.Proofs.YthbmelihnabkaaaGreat
end
