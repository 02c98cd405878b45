/- A part of the proof of this seat's statements, by an abstract machine: what each operation does to values, and what the law's functions compute. Conditions: as each law says. -/
import Derived.Test.YtjefahhmkcfiiaaGreatN21
import Derived.Test.YtjefahhmkcfiiaaGreatN22
import Derived.Test.YtjefahhmkcfiiaaGreatN23
import Derived.Test.YtjefahhmkcfiiaaGreatN20
section
namespace Go.Proofs.YtjefahhmkcfiiaaGreat
open Go.AM
set_option maxHeartbeats 4000000
set_option maxRecDepth 10000
def jE(r:Row):Span:=⟨max r.f 0,min r.t 1114111,r.a,r.b⟩
def zO(l:List Row)(k:Int):List Span:=(l.filter fun r=>r.k==k).map jE
theorem Km(a b:List Row)(k:Int):zO (a++b) k=zO a k++zO b k:=by simp[zO]
theorem zdm(r:Row)(k:Int):zO [r] k=if r.k=k then [jE r]else []:=by
 by_cases hk:r.k=k<;>simp[zO,hk]
def qY:List Span→Prop
 | []=>True
 |s::l=>s.f≤s.t∧(∀x∈l,s.t<x.f)∧qY l
theorem qY.app {a:List Span} {s:Span} {b:List Span}(h:qY (a++s::b)):s.f≤s.t∧∀x∈a,x.t<s.f:=by
 induction a with
 |nil=>exact⟨h.1,by simp⟩
 |cons x a ih=>
  obtain⟨h1,h2,h3⟩:=h
  obtain⟨i1,i2⟩:=ih h3
  refine⟨i1,fun y hy=>?_⟩
  rcases List.mem_cons.1 hy with rfl|hy
  ·exact h2 s (by simp)
  ·exact i2 y hy
theorem qY.left:∀{a b:List Span},qY (a++b)→qY a
 | [],_,_=>trivial
 |s::a,b,h=>⟨h.1,fun x hx=>h.2.1 x (by simp[hx]),qY.left h.2.2⟩
theorem qY.up:∀{l:List Span},qY l→Up l
 | [],_=>fun i j x y _ h=>by simp at h
 |s::l,h=>by
  have ih:=qY.up h.2.2
  intro i j x y hij hi hj
  cases j with
  |zero=>
   obtain rfl:i=0:=by omega
   simp at hi hj
   subst hi;subst hj;exact Int.le_refl _
  |succ j=>
   cases i with
   |zero=>
    simp at hi hj
    subst hi
    have:=h.2.1 y (List.mem_of_getElem? hj)
    have:=h.1
    omega
   |succ i=>exact ih i j x y (by omega) (by simpa using hi) (by simpa using hj)
theorem Xs [Gi](l:List Row)(k:Int)(hR:qY (zO l k))(hb:∀s∈zO l k, -1000000000≤s.t∧s.t≤1000000000)(hn:l.length<2^31)(hS:(zO l k).length<256):
  CR Tryz.prog 67 [] [.p (zC l),.p (.int .i64 k)] [] (is (.p (zK (Z2 (zO l k))))):=by
 refine zm mixed 13 [] Tryz.func67 rfl (by kernel_rfl) rfl (by simp) (by simp) ?_
 simp (maxSteps:=1000000) [go_sem,Tryz.f67,zC]
 refine zi (fun i:Nat=>i≤l.length) (fun i=>[(5,.os [5] 4 ((zO (l.take i) k).map z8)),(12,.p (.int .i64 i))]) (fun _=>[]) (fun i=>l.length-i) 0 (by omega) (by simp[go_sem,LeS,leV,leR,leA,zO]) (fun i hi=>?_)
 simp (maxSteps:=1000000) [go_sem]
 refine zx (fun h=>?_) (fun h=>?_)
 ·have hil:i<l.length:=by omega
  have em:=zq rowP l i hil
  have w1:IntKind.i64.wrap ((i:Int)+1)=((i+1:Nat):Int):=by rw[wrap64 (by omega) (by omega)];rfl
  have htake:l.take (i+1)=l.take i++[l[i]]:=by rw[List.take_add_one,List.getElem?_eq_getElem hil];rfl
  have hsp:zO (l.take (i+1)) k=zO (l.take i) k++(if l[i].k=k then [jE l[i]]else []):=by rw[htake,Km,zdm]
  have hall:zO l k=zO (l.take (i+1)) k++zO (l.drop (i+1)) k:=by rw[←Km,List.take_append_drop]
  have hrise:l[i].k=k→qY (zO (l.take i) k++[jE l[i]]):=fun hk=>by
   rw[hall,hsp,if_pos hk]at hR
   exact hR.left
  have hlen:(zO (l.take (i+1)) k).length<256:=by
   rw[hall,List.length_append]at hS;omega
  generalize l[i]=r at em hsp hrise
  simp (maxSteps:=1000000) [go_sem,em,h,rowP]
  refine xD (fun hk=>?_) (fun hk=>?_)
  ·rw[if_neg hk,List.append_nil]at hsp
   simp (maxSteps:=1000000) [go_sem,w1]
   exact zc (i+1) (by omega) (by simp[go_sem,LeS,leV,leR,leA,hsp]) (by omega)
  ·rw[if_pos hk]at hsp
   obtain⟨r1,r2⟩:=(hrise hk).app
   have hl1:(zO (l.take i) k++[jE r]).length<256:=by rw[←hsp];exact hlen
   simp (maxSteps:=1000000) [go_sem]
   refine⟨⟨rfl,by simp[Tryz.f116]⟩,zb [] (zkC (jE r) (zO (l.take i) k) r1 r2 (by simp at hl1;omega)) (by simp[go_sem]) ⟨by simp[go_sem],by simp[go_sem,jE,z8,zK]⟩ (by simp[go_sem]) ?_⟩
   rintro _ rs ⟨rfl,rfl⟩
   simp (maxSteps:=1000000) [go_sem,zK]
   refine⟨by simp at hl1;omega,⟨rfl,by simp[Tryz.f117]⟩,zb [] (zkD (zO (l.take i) k++[jE r]) (hrise hk).up (by simp) hl1) (by simp[go_sem]) ⟨by simp[go_sem],by simp[go_sem,zK,byV]⟩ (by simp[go_sem]) ?_⟩
   rintro _ rs ⟨rfl,rfl⟩
   simp (maxSteps:=1000000) [go_sem,w1]
   exact zc (i+1) (by omega) (by simp[go_sem,LeS,leV,leR,leA,hsp]) (by omega)
 ·have hil:i=l.length:=by omega
  subst hil
  simp (maxSteps:=1000000) [go_sem]
  refine⟨⟨rfl,by simp[Tryz.f118]⟩,zb [] (zhL (zO l k) (by omega) hb) (by simp[go_sem]) ⟨by simp[go_sem],by simp[go_sem,zK]⟩ (by simp[go_sem]) ?_⟩
  rintro _ rs ⟨rfl,rfl⟩
  simp (maxSteps:=1000000) [go_sem,zK]
  exact zg (.p (zK (Z2 (zO l k)))) rfl (by simp[go_sem,zf,leA,leT,zK]) ⟨rfl,rfl⟩
def QU(s:Span):QC Int:=⟨s.f,s.t,s.a⟩
theorem zdY [Gi](l:List Row)(k:Int)(hR:qY (zO l k))(hb:∀s∈zO l k, -1000000000≤s.t∧s.t≤1000000000)(hn:l.length<2^31)(hS:(zO l k).length<256)
  (hJ:(Z2 (zO l k)).length<256) (hf:∀s∈Z2 (zO l k), -1000000000≤s.f∧s.f≤1000000000):
  CR Tryz.prog 65 [] [.p (zC l),.p (.int .i64 k)] [] (fun x rs=>rs=[]∧∃e,x=.p e∧ye 1 1114112 (fun j=>[.int .i64 (qN 0 j ((Z2 (zO l k)).map QU))]) e):=by
 refine zm mixed 13 [] Tryz.func65 rfl (by kernel_rfl) rfl (by simp) (by simp) ?_
 simp (maxSteps:=1000000) [go_sem,Tryz.f65]
 refine⟨⟨rfl,by simp[Tryz.f67]⟩,zb [] (Xs l k hR hb hn hS) (by simp[go_sem]) ⟨by simp[go_sem],by simp[go_sem]⟩ (by simp[go_sem]) ?_⟩
 rintro _ rs ⟨rfl,rfl⟩
 generalize Z2 (zO l k)=J at hJ hf
 obtain⟨M,hM⟩:∃M,M=J.map fun s=>Wu (QU s):=⟨_,rfl⟩
 have hMl:M.length=J.length:=by rw[hM];simp
 simp (maxSteps:=1000000) [go_sem,zK]
 refine zi (fun i:Nat=>i≤J.length) (fun i=>[(5,.os [5] 3 (M.take i)),(12,.p (.int .i64 i))]) (fun _=>[]) (fun i=>J.length-i) 0 (by omega) (by simp[go_sem,LeS,leV,leR,leA]) (fun i hi=>?_)
 simp (maxSteps:=1000000) [go_sem]
 refine zx (fun h=>?_) (fun h=>?_)
 ·have hil:i<J.length:=by omega
  have em:=zq z8 J i hil
  have w1:IntKind.i64.wrap ((i:Int)+1)=((i+1:Nat):Int):=by rw[wrap64 (by omega) (by omega)];rfl
  have htake:M.take (i+1)=M.take i++[Wu (QU J[i])]:=by
   rw[List.take_add_one,hM,List.getElem?_map,List.getElem?_eq_getElem hil];rfl
  have hle:(M.take i).length≤256:=by rw[List.length_take];omega
  generalize J[i]=r at em htake
  simp (maxSteps:=1000000) [go_sem,em,h,z8,w1]
  refine⟨by rw[List.length_take]at hle;omega,zc (i+1) (by omega) (by simp[go_sem,LeS,leV,leR,leA,htake,Wu,QU]) (by omega)⟩
 ·have hil:i=J.length:=by omega
  subst hil
  have hall:M.take J.length=(J.map QU).map Wu:=by rw[←hMl,List.take_length,hM,List.map_map];rfl
  rw[hall]
  simp (maxSteps:=1000000) [go_sem]
  refine⟨⟨rfl,by simp[Tryz.f109]⟩,zb [] (zgC (J.map QU) 1114112 (by omega) (by omega) (by simp;omega) (fun p hp=>?_)) (by simp[go_sem]) ⟨by simp[go_sem],by simp[go_sem,y9]⟩ (by simp[go_sem]) ?_⟩
  ·obtain⟨s,hs,rfl⟩:=List.mem_map.1 hp
   exact hf s hs
  rintro _ rs ⟨rfl,e,rfl,he⟩
  obtain⟨idx,blocks,rfl,he'⟩:=he
  simp (maxSteps:=1000000) [go_sem]
  exact zl [] (.p (.pt 3 (Qy 1 1114112 idx blocks))) ⟨rfl,by simp⟩ (by simp[go_sem,zf,leA,leT]) ⟨by simp[go_sem],_,rfl,idx,blocks,rfl,he'⟩
end Go.Proofs.YtjefahhmkcfiiaaGreat
end
section
namespace Go.Proofs.YtjefahhmkcfiiaaGreat
open Go.AM
set_option maxHeartbeats 4000000
set_option maxRecDepth 10000
def kK(s:Span)(c:Int):Int:=if s.t<c then -1 else if c<s.f then 1 else 0
def KX:PV:=.opq (.func (.func 163) #[] #[])
theorem X8 [Gi](s:Span)(c:Int):CR Tryz.prog 163 [] [.p (z8 s),.p (.int .i64 c)] [] (is (.p (.int .i64 (kK s c)))):=by
 refine zm mixed 6 [] Tryz.func163 rfl (by kernel_rfl) rfl (by simp) (by simp) ?_
 simp[go_sem,Tryz.f163,z8]
 refine zx (fun h=>?_) (fun h=>?_)
 ·simp[go_sem]
  exact zg (.p (.int .i64 (-1))) rfl (by simp[go_sem,zf,leA,leT]) ⟨rfl,by simp[kK,h]⟩
 ·simp[go_sem]
  refine zx (fun h2=>?_) (fun h2=>?_)
  ·simp[go_sem]
   exact zg (.p (.int .i64 1)) rfl (by simp[go_sem,zf,leA,leT]) ⟨rfl,by simp[kK,h,h2]⟩
  ·simp[go_sem]
   exact zg (.p (.int .i64 0)) rfl (by simp[go_sem,zf,leA,leT]) ⟨rfl,by simp[kK,h,h2]⟩
theorem qY.lt:∀{l:List Span},qY l→∀i j (hi:i<l.length) (hj:j<l.length),i<j→l[i].t<l[j].f
 | [],_,i,j,hi,_,_=>by simp at hi
 |s::l,h,i,j,hi,hj,hij=>by
  cases j with
  |zero=>omega
  |succ j=>
   cases i with
   |zero=>exact h.2.1 _ (List.getElem_mem _)
   |succ i=>exact qY.lt h.2.2 i j _ _ (by omega)
theorem qY.le:∀{l:List Span},qY l→∀s∈l,s.f≤s.t
 | [],_,s,hs=>by simp at hs
 |a::l,h,s,hs=>by
  rcases List.mem_cons.1 hs with rfl|hs
  ·exact h.1
  ·exact qY.le h.2.2 s hs
theorem VZ {x:Int}(h1:0≤x)(h2:x≤9223372036854775807):IntKind.u64.wrap x=x:=by
 simp[IntKind.wrap,IntKind.signed,IntKind.bits];omega
def zl3(l:List Span)(c:Int)(x:AV):Prop:=(∃i:Nat,∃hi:i<l.length,x=.tup [.p (.int .i64 i),.p (.bool true)]∧l[i].f≤c∧c≤l[i].t)∨∃i:Nat,x=.tup [.p (.int .i64 i),.p (.bool false)]∧∀s∈l,¬(s.f≤c∧c≤s.t)
theorem zg5 [Gi](l:List Span)(c:Int)(hR:qY l)(hn:l.length<2^31):CR Tryz.prog 162 [] [.p (zK l),.p (.int .i64 c),.p KX] [] (fun x rs=>rs=[]∧zl3 l c x):=by
 refine zm mixed 12 [] Tryz.func162 rfl (by kernel_rfl) rfl (by simp) (by simp) ?_
 simp[go_sem,Tryz.f162,zK]
 refine zi (fun r:Nat×Nat=>r.1≤r.2∧r.2≤l.length∧(∀i (hi:i<l.length),i<r.1→l[i].t<c)∧∀i (hi:i<l.length),r.2≤i→c≤l[i].t) (fun r=>[(9,.p (.int .i64 (r.1:Nat))),(10,.p (.int .i64 (r.2:Nat)))]) (fun _=>[]) (fun r=>r.2-r.1) (0,l.length) ⟨by simp,by simp,by simp,fun i hi h=>absurd h (by simpa using hi)⟩ (by simp[go_sem,LeS,leV,leR,leA]) (fun r hr=>?_)
 obtain⟨i,j⟩:=r
 obtain⟨h1,h2,h3,h4⟩:=hr
 simp only at h1 h2 h3 h4
 simp (maxSteps:=1000000) [go_sem]
 refine zx (fun h=>?_) (fun h=>?_)
 ·obtain⟨s,hs⟩:∃s,s=i+j:=⟨_,rfl⟩
  obtain⟨m,hm⟩:∃m,m=s/2:=⟨_,rfl⟩
  have w1:IntKind.i64.wrap ((i:Int)+j)=(s:Int):=by rw[wrap64 (by omega) (by omega)];omega
  have w2:IntKind.u64.wrap (s:Int)=(s:Int):=VZ (by omega) (by omega)
  have w3:(s:Int).fdiv 2=(m:Int):=by rw[Int.fdiv_eq_ediv_of_nonneg _ (by omega)];omega
  have w4:IntKind.i64.wrap (m:Int)=(m:Int):=wrap64 (by omega) (by omega)
  have w5:IntKind.i64.wrap ((m:Int)+1)=((m+1:Nat):Int):=by rw[wrap64 (by omega) (by omega)];rfl
  have hml:m<l.length:=by omega
  have em:=zq z8 l m hml
  obtain⟨q,hq⟩:∃q,l[m]=q:=⟨_,rfl⟩
  rw[hq]at em
  simp (maxSteps:=1000000) [go_sem,w1,w2,w3,w4,em,z8,hml,KX]
  refine⟨⟨rfl,by simp[Tryz.f163]⟩,zb [] (X8 q c) (by simp[go_sem]) ⟨by simp[go_sem],by simp[go_sem,z8]⟩ (by simp[go_sem]) ?_⟩
  rintro _ rs ⟨rfl,rfl⟩
  simp (maxSteps:=1000000) [go_sem]
  refine zx (fun hb=>?_) (fun hb=>?_)
  ·have hb':q.t<c:=by
    unfold kK at hb
    split at hb
    ·assumption
    ·split at hb<;>omega
   simp (maxSteps:=1000000) [go_sem,w5]
   refine zc (m+1,j) ⟨by show m+1≤j;omega,h2,fun k hk hkm=>?_,h4⟩ (by simp[go_sem,LeS,leV,leR,leA]) (by show j- (m+1)<j-i;omega)
   by_cases e:k=m
   ·subst e;rw[hq];exact hb'
   ·have:=hR.lt k m hk hml (by simp at hkm;omega)
    have:=hR.le l[m] (List.getElem_mem _)
    rw[hq]at*
    omega
  ·have hb':c≤q.t:=by
    unfold kK at hb
    split at hb
    ·omega
    ·omega
   simp (maxSteps:=1000000) [go_sem]
   refine zc (i,m) ⟨by show i≤m;omega,by show m≤l.length;omega,h3,fun k hk hkm=>?_⟩ (by simp[go_sem,LeS,leV,leR,leA]) (by show m-i<j-i;omega)
   by_cases e:k=m
   ·subst e;rw[hq];exact hb'
   ·have:=hR.lt m k hml hk (by simp at hkm;omega)
    have:=hR.le l[k] (List.getElem_mem _)
    rw[hq]at*
    omega
 ·obtain rfl:i=j:=by omega
  by_cases hil:i<l.length
  ·have em:=zq z8 l i hil
   have hc:=h4 i hil (Nat.le_refl _)
   have hrest:∀k,(hk:k<l.length)→k≠i→¬(l[k].f≤c∧c≤l[k].t):=fun k hk hki h=>by
    by_cases hk2:k<i
    ·have:=h3 k hk hk2
     omega
    ·have:=hR.lt i k hil hk (by omega)
     omega
   obtain⟨q,hq⟩:∃q,l[i]=q:=⟨_,rfl⟩
   rw[hq]at em hc
   simp (maxSteps:=1000000) [go_sem,em,z8,hil,KX]
   refine⟨⟨rfl,by simp[Tryz.f163]⟩,zb [] (X8 q c) (by simp[go_sem]) ⟨by simp[go_sem],by simp[go_sem,z8]⟩ (by simp[go_sem]) ?_⟩
   rintro _ rs ⟨rfl,rfl⟩
   simp (maxSteps:=1000000) [go_sem]
   by_cases hf:q.f≤c
   ·have hb:kK q c=0:=by unfold kK;rw[if_neg (by omega),if_neg (by omega)]
    simp (maxSteps:=1000000) [go_sem,hb]
    exact zg (.tup [.p (.int .i64 i),.p (.bool true)]) rfl (by simp[go_sem,zf,leA,leT,leP]) ⟨rfl,.inl ⟨i,hil,rfl,by rw[hq];exact⟨hf,hc⟩⟩⟩
   ·have hb:kK q c≠0:=by unfold kK;rw[if_neg (by omega),if_pos (by omega)];decide
    simp (maxSteps:=1000000) [go_sem,hb]
    refine zg (.tup [.p (.int .i64 i),.p (.bool false)]) rfl (by simp[go_sem,zf,leA,leT,leP]) ⟨rfl,.inr ⟨i,rfl,fun s hs hh=>?_⟩⟩
    obtain⟨k,hk,rfl⟩:=List.mem_iff_getElem.1 hs
    by_cases hki:k=i
    ·subst hki;rw[hq]at hh;exact hf hh.1
    ·exact hrest k hk hki hh
  ·simp (maxSteps:=1000000) [go_sem,hil]
   refine zg (.tup [.p (.int .i64 i),.p (.bool false)]) rfl (by simp[go_sem,zf,leA,leT,leP]) ⟨rfl,.inr ⟨i,rfl,fun s hs hh=>?_⟩⟩
   obtain⟨k,hk,rfl⟩:=List.mem_iff_getElem.1 hs
   have:=h3 k hk (by omega)
   omega
def atL(l:List Span)(c:Int):Option Span:=l.find? fun s=>decide (s.f≤c∧c≤s.t)
def atA(x:Option Span):AV:=match x with|some s=>.tup [.p (z8 s),.p (.bool true)]|none=>.tup [.p (z8 ⟨0,0,0,0⟩),.p (.bool false)]
theorem zee:∀{l:List Span},qY l→∀c i (hi:i<l.length),l[i].f≤c→c≤l[i].t→atL l c=some l[i]
 | [],_,c,i,hi,_,_=>by simp at hi
 |s::l,h,c,i,hi,h1,h2=>by
  cases i with
  |zero=>simp only[List.getElem_cons_zero]at h1 h2;simp[atL,List.find?,h1,h2]
  |succ i=>
   have hi':i<l.length:=by simpa using hi
   simp only[List.getElem_cons_succ]at h1 h2⊢
   have h3:=h.2.1 l[i] (List.getElem_mem _)
   have:=zee h.2.2 c i hi' h1 h2
   unfold atL at this⊢
   rw[List.find?_cons_of_neg (by simp;omega),this]
theorem zfs [Gi](l:List Span)(c:Int)(hc: -1000000000≤c∧c≤1000000000)(hR:qY l)(hn:l.length<2^31):CR Tryz.prog 111 [] [.p (zK l),.p (.int .i32 c)] [] (is (atA (atL l c))):=by
 have w1:IntKind.i64.wrap c=c:=wrap64 (by omega) (by omega)
 refine zm mixed 9 [] Tryz.func111 rfl (by kernel_rfl) rfl (by simp) (by simp) ?_
 simp (maxSteps:=1000000) [go_sem,Tryz.f111,w1]
 refine⟨⟨rfl,by simp[Tryz.f162]⟩,zb [] (zg5 l c hR hn) (by simp[go_sem]) ⟨by simp[go_sem],by simp[go_sem,zK,KX]⟩ (by simp[go_sem]) ?_⟩
 rintro _ rs ⟨rfl,⟨i,hi,rfl,h1,h2⟩|⟨i,rfl,h1⟩⟩
 ·have em:=zq z8 l i hi
  rw[zee hR c i hi h1 h2]
  generalize l[i]=q at em
  simp (maxSteps:=1000000) [go_sem,em,z8,hi,zK]
  exact zg (.tup [.p (z8 q),.p (.bool true)]) rfl (by simp[go_sem,zf,leA,leT,leP,z8]) ⟨rfl,rfl⟩
 ·have e:atL l c=none:=by
   unfold atL
   rw[List.find?_eq_none]
   intro s hs
   simpa using h1 s hs
  rw[e]
  simp (maxSteps:=1000000) [go_sem]
  exact zg (.tup [.p (z8 ⟨0,0,0,0⟩),.p (.bool false)]) rfl (by simp[go_sem,zf,leA,leT,leP,z8]) ⟨rfl,rfl⟩
end Go.Proofs.YtjefahhmkcfiiaaGreat
end
section
namespace Go.Proofs.YtjefahhmkcfiiaaGreat
open Go.AM
set_option maxHeartbeats 4000000
set_option maxRecDepth 10000
def Qh(a e:Int):List Span→Int
 | []=>e
 |s::l=>Qh a (if a<s.f∧s.f≤e then s.f-1 else e) l
theorem zac(a e:Int)(l m:List Span):Qh a e (l++m)=Qh a (Qh a e l) m:=by
 induction l generalizing e with
 |nil=>rfl
 |cons s l ih=>simp only[List.cons_append,Qh];exact ih _
theorem zdq(a e:Int)(l:List Span):Qh a e l≤e:=by
 induction l generalizing e with
 |nil=>exact Int.le_refl _
 |cons s l ih=>simp only[Qh];refine Int.le_trans (ih _) ?_;split<;>omega
theorem zey(a e:Int)(l:List Span):∀s∈l,¬(a<s.f∧s.f≤Qh a e l):=by
 induction l generalizing e with
 |nil=>simp
 |cons x l ih=>
  intro s hs h
  rcases List.mem_cons.1 hs with rfl|hs
  ·simp only[Qh]at h
   have:=zdq a (if a<s.f∧s.f≤e then s.f-1 else e) l
   generalize Qh a (if a<s.f∧s.f≤e then s.f-1 else e) l=u at this h
   split at this<;>omega
  ·exact ih _ s hs h
def zeL(Ls:List (List Span)):PV:=.agg (Ls.map zK)
theorem zks [Gi](Ls:List (List Span))(a e:Int)(hn:Ls.length=4)(hl:∀l∈Ls,l.length<256)(hb:∀l∈Ls,∀s∈l, -1000000000≤s.f∧s.f≤1000000000):
  CR Tryz.prog 112 [] [.p (.int .i64 a),.p (.int .i64 e),.p (zeL Ls)] [] (is (.p (.int .i64 (Qh a e Ls.flatten)))):=by
 refine zm mixed 11 [11,12,15,16,17] Tryz.func112 rfl (by kernel_rfl) rfl (by simp) (by simp) ?_
 obtain⟨M,hM⟩:∃M,M=Ls.map zK:=⟨_,rfl⟩
 have hMl:M.length=4:=by rw[hM];simp[hn]
 simp only[zeL,←hM]
 simp (maxSteps:=1000000) [go_sem,Tryz.f112,hMl,QD hMl,zhA]
 refine zi (fun r:Nat=>r≤4) (fun r=>[(12,.p (.int .i64 (r:Nat))),(1,.p (.int .i64 (Qh a e (Ls.take r).flatten)))]) (fun _=>[]) (fun r=>4-r) 0 (by omega) (by simp[go_sem,LeS,leV,leR,leA,Qh,zj]) (fun i hi=>?_)
 simp (maxSteps:=1000000) [go_sem]
 refine zx (fun h=>?_) (fun h=>?_)
 ·have hil:i<Ls.length:=by omega
  have w1:IntKind.i64.wrap ((i:Int)+1)=((i+1:Nat):Int):=by rw[wrap64 (by omega) (by omega)];rfl
  have htake:(Ls.take (i+1)).flatten=(Ls.take i).flatten++Ls[i]:=by
   rw[List.take_add_one,List.getElem?_eq_getElem hil,List.flatten_append];exact congrArg _ (by simp)
  have hm:Ls[i]∈Ls:=List.getElem_mem _
  have hl':=hl _ hm
  have hb':=hb _ hm
  have em:M[i]?=some (zK Ls[i]):=by rw[hM,List.getElem?_map,List.getElem?_eq_getElem hil];rfl
  generalize Ls[i]=l at htake hm em hl' hb'
  simp (maxSteps:=1000000) [go_sem,em,zK]
  obtain⟨E0,hE0⟩:∃E0,E0=Qh a e (Ls.take i).flatten:=⟨_,rfl⟩
  refine⟨by omega,zi (fun j:Nat=>j≤l.length) (fun j=>[(17,.p (.int .i64 (j:Nat))),(1,.p (.int .i64 (Qh a E0 (l.take j))))]) (fun _=>[]) (fun j=>l.length-j) 0 (by omega) (by simp[go_sem,LeS,leV,leR,leA,Qh,zj,hE0]) (fun j hj=>?_)⟩
  simp (maxSteps:=1000000) [go_sem]
  refine zx (fun h2=>?_) (fun h2=>?_)
  ·have hjl:j<l.length:=by omega
   have em2:=zq z8 l j hjl
   have w2:IntKind.i64.wrap ((j:Int)+1)=((j+1:Nat):Int):=by rw[wrap64 (by omega) (by omega)];rfl
   have hq:=hb' l[j] (List.getElem_mem _)
   have htk:Qh a E0 (l.take (j+1))=if a<l[j].f∧l[j].f≤Qh a E0 (l.take j)then l[j].f-1 else Qh a E0 (l.take j):=by
    rw[List.take_add_one,List.getElem?_eq_getElem hjl,zac];rfl
   generalize l[j]=q at em2 hq htk
   have w3:IntKind.i64.wrap (q.f-1)=q.f-1:=wrap64 (by omega) (by omega)
   generalize Qh a E0 (l.take j)=E1 at htk
   by_cases h3:a<q.f
   ·by_cases h4:q.f≤E1
    ·rw[if_pos ⟨h3,h4⟩]at htk
     simp (maxSteps:=1000000) [go_sem,em2,hjl,z8,h3,h4,w2,w3]
     exact zc (j+1) (by omega) (by simp[go_sem,LeS,leV,leR,leA,zj,htk]) (by omega)
    ·rw[if_neg (fun h=>h4 h.2)]at htk
     simp (maxSteps:=1000000) [go_sem,em2,hjl,z8,h3,h4,w2]
     exact zc (j+1) (by omega) (by simp[go_sem,LeS,leV,leR,leA,zj,htk]) (by omega)
   ·rw[if_neg (fun h=>h3 h.1)]at htk
    simp (maxSteps:=1000000) [go_sem,em2,hjl,z8,h3,w2]
    exact zc (j+1) (by omega) (by simp[go_sem,LeS,leV,leR,leA,zj,htk]) (by omega)
  ·obtain rfl:j=l.length:=by omega
   have hfin:Qh a E0 (l.take l.length)=Qh a e (Ls.take (i+1)).flatten:=by rw[List.take_length,htake,zac,hE0]
   simp (maxSteps:=1000000) [go_sem,w1]
   exact zc (i+1) (by omega) (by simp[go_sem,LeS,leV,leR,leA,zj,←hfin]) (by omega)
 ·obtain rfl:i=4:=by omega
  simp (maxSteps:=1000000) [go_sem]
  exact zg (.p (.int .i64 (Qh a e Ls.flatten))) rfl (by simp[go_sem,zf,leA,leT,←hn,List.take_length]) ⟨rfl,rfl⟩
end Go.Proofs.YtjefahhmkcfiiaaGreat
end
section
namespace Go.Proofs.YtjefahhmkcfiiaaGreat
open Go.AM
def qZ(l:List Span)(c:Int):Bool:=match atL l c with|some s=>s.a==1|none=>false
def xt(a e:Int):List (List Span)→Int
 | []=>e
 |l::Ls=>xt a (match atL l a with|some s=>min e s.t|none=>e) Ls
def Ql(A B C D:List Span)(c:Int):Flags:=⟨qZ A c,qZ B c,qZ C c,qZ D c⟩
def yS:Flags:=⟨false,false,false,false⟩
def wU(A B C D:List Span)(a:Int):QC Flags:=⟨a,Qh a (xt a 1114111 [A,B,C,D]) [A,B,C,D].flatten,Ql A B C D a⟩
def kg(A B C D:List Span)(at_:List Int):List (QC Flags):=(at_.filter fun a=>Ql A B C D a !=yS).map (wU A B C D)
theorem zbN {l:List Span} {c:Int} {s:Span}(h:atL l c=some s):s∈l∧s.f≤c∧c≤s.t:=by
 unfold atL at h
 exact⟨List.mem_of_find?_eq_some h,by simpa using List.find?_some h⟩
theorem zi4 {l:List Span}(hR:qY l) {c:Int} {s:Span}(hs:s∈l)(h1:s.f≤c)(h2:c≤s.t):atL l c=some s:=by
 obtain⟨i,hi,rfl⟩:=List.mem_iff_getElem.1 hs
 exact zee hR c i hi h1 h2
theorem zbO(a:Int):∀(Ls:List (List Span)) (e:Int),xt a e Ls≤e∧∀l∈Ls,∀s,atL l a=some s→xt a e Ls≤s.t
 | [],e=>⟨Int.le_refl _,by simp⟩
 |l::Ls,e=>by
  simp only[xt]
  cases h:atL l a with
  |none=>
   obtain⟨h1,h2⟩:=zbO a Ls e
   refine⟨h1,fun m hm s hs=>?_⟩
   rcases List.mem_cons.1 hm with rfl|hm
   ·rw[h]at hs;simp at hs
   ·exact h2 m hm s hs
  |some x=>
   obtain⟨h1,h2⟩:=zbO a Ls (min e x.t)
   refine⟨by simp only;omega,fun m hm s hs=>?_⟩
   rcases List.mem_cons.1 hm with rfl|hm
   ·rw[h]at hs;injection hs with hs;subst hs;simp only;omega
   ·exact h2 m hm s hs
theorem zf6(a j:Int):∀(Ls:List (List Span)) (e:Int),j≤e→(∀l∈Ls,∀s,atL l a=some s→j≤s.t)→j≤xt a e Ls
 | [],e,h,_=>h
 |l::Ls,e,h,hs=>by
  simp only[xt]
  apply zf6 a j Ls
  ·cases h':atL l a with
   |none=>exact h
   |some x=>have:=hs l (by simp) x h';simp only;omega
  ·exact fun m hm s h=>hs m (by simp[hm]) s h
theorem zhS(a j:Int)(l:List Span):∀e,j≤e→(∀s∈l,¬(a<s.f∧s.f≤j))→j≤Qh a e l:=by
 induction l with
 |nil=>exact fun e h _=>h
 |cons s l ih=>
  intro e h hs
  simp only[Qh]
  apply ih
  ·have:=hs s (by simp)
   split<;>omega
  ·exact fun x hx=>hs x (by simp[hx])
theorem VM {l:List Span}(hR:qY l) {a j:Int}(h0:a≤j)(h1:∀s,atL l a=some s→j≤s.t)(h2:∀s∈l,¬(a<s.f∧s.f≤j)):atL l j=atL l a:=by
 cases h:atL l a with
 |some s=>
  obtain⟨h3,h4,h5⟩:=zbN h
  exact zi4 hR h3 (by omega) (h1 s h)
 |none=>
  cases h':atL l j with
  |none=>rfl
  |some s=>
   obtain⟨h3,h4,h5⟩:=zbN h'
   by_cases hf:s.f≤a
   ·have:=zi4 hR h3 hf (by omega)
    rw[h]at this;simp at this
   ·exact absurd ⟨by omega,h4⟩ (h2 s h3)
theorem KF {A B C D:List Span}(hA:qY A)(hB:qY B)(hC:qY C)(hD:qY D) {a j:Int}(h0:a≤j)(h1:∀l∈[A,B,C,D],∀s,atL l a=some s→j≤s.t)(h2:∀l∈[A,B,C,D],∀s∈l,¬(a<s.f∧s.f≤j)):
  Ql A B C D j=Ql A B C D a:=by
 simp only[Ql,qZ]
 rw[VM hA h0 (h1 A (by simp)) (h2 A (by simp)),VM hB h0 (h1 B (by simp)) (h2 B (by simp)),VM hC h0 (h1 C (by simp)) (h2 C (by simp)),VM hD h0 (h1 D (by simp)) (h2 D (by simp))]
theorem Xf {A B C D:List Span}(hA:qY A)(hB:qY B)(hC:qY C)(hD:qY D) {a j:Int}(h0:a≤j)(h1:j≤(wU A B C D a).t):Ql A B C D j=Ql A B C D a:=by
 simp only[wU]at h1
 have h2:=zdq a (xt a 1114111 [A,B,C,D]) [A,B,C,D].flatten
 have h3:=zey a (xt a 1114111 [A,B,C,D]) [A,B,C,D].flatten
 obtain⟨_,h4⟩:=zbO a [A,B,C,D] 1114111
 refine KF hA hB hC hD h0 (fun l hl s hs=>?_) (fun l hl s hs h=>h3 s (List.mem_flatten.2 ⟨l,hl,hs⟩) ⟨h.1,by omega⟩)
 have:=h4 l hl s hs
 omega
theorem zb0 {α:Type}(zero:α)(j:Int)(v:α):∀l:List (QC α),(∀p∈l,p.f≤j→j≤p.t→p.v=v)→((∃p∈l,p.f≤j∧j≤p.t)∨v=zero)→qN zero j l=v
 | [],_,h=>by rcases h with ⟨p,hp,_⟩|h;simp at hp;exact h.symm
 |p::l,h1,h2=>by
  simp only[qN]
  split
  ·rename_i h;exact h1 p (by simp) h.1 h.2
  ·rename_i h
   apply zb0 zero j v l (fun q hq=>h1 q (by simp[hq]))
   rcases h2 with ⟨q,hq,h3⟩|h2
   ·rcases List.mem_cons.1 hq with rfl|hq
    ·exact absurd h3 h
    ·exact .inl ⟨q,hq,h3⟩
   ·exact .inr h2
theorem ziV(at_:List Int)(j:Int)(h0:∃a∈at_,a≤j):∃a∈at_,a≤j∧∀b∈at_,b≤j→b≤a:=by
 induction at_ with
 |nil=>obtain⟨a,ha,_⟩:=h0;simp at ha
 |cons x l ih=>
  by_cases hl:∃a∈l,a≤j
  ·obtain⟨a,ha,h1,h2⟩:=ih hl
   by_cases hx:x≤j∧a≤x
   ·refine⟨x,by simp,hx.1,fun b hb hbj=>?_⟩
    rcases List.mem_cons.1 hb with rfl|hb
    ·exact Int.le_refl _
    ·have:=h2 b hb hbj;omega
   ·refine⟨a,by simp[ha],h1,fun b hb hbj=>?_⟩
    rcases List.mem_cons.1 hb with rfl|hb
    ·omega
    ·exact h2 b hb hbj
  ·obtain⟨a,ha,h1⟩:=h0
   rcases List.mem_cons.1 ha with rfl|ha
   ·refine⟨a,by simp,h1,fun b hb hbj=>?_⟩
    rcases List.mem_cons.1 hb with rfl|hb
    ·exact Int.le_refl _
    ·exact absurd ⟨b,hb,hbj⟩ hl
   ·exact absurd ⟨a,ha,h1⟩ hl
theorem ze2 {A B C D:List Span}(hA:qY A)(hB:qY B)(hC:qY C)(hD:qY D) {at_:List Int}(h0:0∈at_)(h1:∀l∈[A,B,C,D],∀s∈l,s.f∈at_∧s.t+1∈at_) {j:Int}(hj0:0≤j)(hj:j≤1114111):
  qN yS j (kg A B C D at_)=Ql A B C D j:=by
 refine zb0 yS j _ _ (fun p hp hf ht=>?_) ?_
 ·obtain⟨a,ha,rfl⟩:=List.mem_map.1 hp
  exact(Xf hA hB hC hD hf ht).symm
 ·obtain⟨a,ha,h2,h3⟩:=ziV at_ j ⟨0,h0,hj0⟩
  have ht:∀l∈[A,B,C,D],∀s,atL l a=some s→j≤s.t:=fun l hl s hs=>by
   obtain⟨h4,h5,h6⟩:=zbN hs
   apply Classical.byContradiction
   intro hn
   have:=h3 _ (h1 l hl s h4).2 (by omega)
   omega
  have hf:∀l∈[A,B,C,D],∀s∈l,¬(a<s.f∧s.f≤j):=fun l hl s hs h=>by
   have:=h3 _ (h1 l hl s hs).1 h.2
   omega
  have e:=KF hA hB hC hD h2 ht hf
  by_cases hz:Ql A B C D a=yS
  ·exact .inr (e.trans hz)
  ·refine .inl ⟨wU A B C D a,List.mem_map.2 ⟨a,List.mem_filter.2 ⟨ha,by simpa using hz⟩,rfl⟩,h2,?_⟩
   exact zhS a j _ _ (zf6 a j _ _ hj ht) (fun s hs=>by
    obtain⟨l,hl,hs⟩:=List.mem_flatten.1 hs
    exact hf l hl s hs)
end Go.Proofs.YtjefahhmkcfiiaaGreat
end
