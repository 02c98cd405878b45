/- A part of the proof of this seat's statements, by an abstract machine: what each operation does to values, and what the law's functions compute. Conditions: as each law says. -/
import Derived.Test.YtcgfdhdcihmeeaaGreatT19
import Derived.Test.YtcgfdhdcihmeeaaGreatT20
import Derived.Test.YtcgfdhdcihmeeaaGreatT18
import Derived.Test.YtcgfdhdcihmeeaaGreatT17
section
namespace Go.Proofs.YtcgfdhdcihmeeaaGreat
open Go.AM
set_option maxHeartbeats 4000000
set_option maxRecDepth 10000
def jB(r:Row):Span:=⟨max r.f 0,min r.t 1114111,r.a,r.b⟩
def zH(l:List Row)(k:Int):List Span:=(l.filter fun r=>r.k==k).map jB
theorem V6(a b:List Row)(k:Int):zH (a++b) k=zH a k++zH b k:=by simp[zH]
theorem zb0(r:Row)(k:Int):zH [r] k=if r.k=k then [jB r]else []:=by
 by_cases hk:r.k=k<;>simp[zH,hk]
def qH:List Span→Prop
 | []=>True
 |s::l=>s.f≤s.t∧(∀x∈l,s.t<x.f)∧qH l
theorem qH.app {a:List Span} {s:Span} {b:List Span}(h:qH (a++s::b)):s.f≤s.t∧∀x∈a,x.t<s.f:=by
 induction a with
 |nil=>exact⟨h.1,by simp⟩
 |cons x a ih=>
  obtain⟨h1,h2,h3⟩:=h
  obtain⟨i1,i2⟩:=ih h3
  refine⟨i1,fun y hy=>?_⟩
  rcases List.mem_cons.1 hy with rfl|hy
  ·exact h2 s (by simp)
  ·exact i2 y hy
theorem qH.left:∀{a b:List Span},qH (a++b)→qH a
 | [],_,_=>trivial
 |s::a,b,h=>⟨h.1,fun x hx=>h.2.1 x (by simp[hx]),qH.left h.2.2⟩
theorem qH.up:∀{l:List Span},qH l→Up l
 | [],_=>fun i j x y _ h=>by simp at h
 |s::l,h=>by
  have ih:=qH.up h.2.2
  intro i j x y hij hi hj
  cases j with
  |zero=>
   obtain rfl:i=0:=by omega
   simp at hi hj
   subst hi;subst hj;exact Int.le_refl _
  |succ j=>
   cases i with
   |zero=>
    simp at hi hj
    subst hi
    have:=h.2.1 y (List.mem_of_getElem? hj)
    have:=h.1
    omega
   |succ i=>exact ih i j x y (by omega) (by simpa using hi) (by simpa using hj)
theorem Y3 [Gi](l:List Row)(k:Int)(hR:qH (zH l k))(hb:∀s∈zH l k, -1000000000≤s.t∧s.t≤1000000000)(hn:l.length<2^31)(hS:(zH l k).length<256):
  CR Tryz.prog 29 [] [.p (zU l),.p (.int .i64 k)] [] (is (.p (zB (Zx (zH l k))))):=by
 refine zC mixed 13 [] Tryz.func29 rfl (by kernel_rfl) rfl (by simp) (by simp) ?_
 simp (maxSteps:=1000000) [go_sem,Tryz.f29,zU]
 refine zE (fun i:Nat=>i≤l.length) (fun i=>[(5,.os [5] 4 ((zH (l.take i) k).map zT)),(12,.p (.int .i64 i))]) (fun _=>[]) (fun i=>l.length-i) 0 (by omega) (by simp[go_sem,LeS,leV,leR,leA,zH]) (fun i hi=>?_)
 simp (maxSteps:=1000000) [go_sem]
 refine zt (fun h=>?_) (fun h=>?_)
 ·have hil:i<l.length:=by omega
  have em:=zp rowP l i hil
  have w1:IntKind.i64.wrap ((i:Int)+1)=((i+1:Nat):Int):=by rw[wrap64 (by omega) (by omega)];rfl
  have htake:l.take (i+1)=l.take i++[l[i]]:=by rw[List.take_add_one,List.getElem?_eq_getElem hil];rfl
  have hsp:zH (l.take (i+1)) k=zH (l.take i) k++(if l[i].k=k then [jB l[i]]else []):=by rw[htake,V6,zb0]
  have hall:zH l k=zH (l.take (i+1)) k++zH (l.drop (i+1)) k:=by rw[←V6,List.take_append_drop]
  have hrise:l[i].k=k→qH (zH (l.take i) k++[jB l[i]]):=fun hk=>by
   rw[hall,hsp,if_pos hk]at hR
   exact hR.left
  have hlen:(zH (l.take (i+1)) k).length<256:=by
   rw[hall,List.length_append]at hS;omega
  generalize l[i]=r at em hsp hrise
  simp (maxSteps:=1000000) [go_sem,em,h,rowP]
  refine zgz (fun hk=>?_) (fun hk=>?_)
  ·rw[if_neg hk,List.append_nil]at hsp
   simp (maxSteps:=1000000) [go_sem,w1]
   exact zg (i+1) (by omega) (by simp[go_sem,LeS,leV,leR,leA,hsp]) (by omega)
  ·rw[if_pos hk]at hsp
   obtain⟨r1,r2⟩:=(hrise hk).app
   have hl1:(zH (l.take i) k++[jB r]).length<256:=by rw[←hsp];exact hlen
   simp (maxSteps:=1000000) [go_sem]
   refine⟨⟨rfl,by simp[Tryz.f55]⟩,zd [] (zj5 (jB r) (zH (l.take i) k) r1 r2 (by simp at hl1;omega)) (by simp[go_sem]) ⟨by simp[go_sem],by simp[go_sem,jB,zT,zB]⟩ (by simp[go_sem]) ?_⟩
   rintro _ rs ⟨rfl,rfl⟩
   simp (maxSteps:=1000000) [go_sem,zB]
   refine⟨by simp at hl1;omega,⟨rfl,by simp[Tryz.f56]⟩,zd [] (zjC (zH (l.take i) k++[jB r]) (hrise hk).up (by simp) hl1) (by simp[go_sem]) ⟨by simp[go_sem],by simp[go_sem,zB,byV]⟩ (by simp[go_sem]) ?_⟩
   rintro _ rs ⟨rfl,rfl⟩
   simp (maxSteps:=1000000) [go_sem,w1]
   exact zg (i+1) (by omega) (by simp[go_sem,LeS,leV,leR,leA,hsp]) (by omega)
 ·have hil:i=l.length:=by omega
  subst hil
  simp (maxSteps:=1000000) [go_sem]
  refine⟨⟨rfl,by simp[Tryz.f57]⟩,zd [] (zfw (zH l k) (by omega) hb) (by simp[go_sem]) ⟨by simp[go_sem],by simp[go_sem,zB]⟩ (by simp[go_sem]) ?_⟩
  rintro _ rs ⟨rfl,rfl⟩
  simp (maxSteps:=1000000) [go_sem,zB]
  exact zh (.p (zB (Zx (zH l k)))) rfl (by simp[go_sem,zf,leA,leT,zB]) ⟨rfl,rfl⟩
def Qy(s:Span):Z3 Int:=⟨s.f,s.t,s.a⟩
theorem zdc [Gi](l:List Row)(k:Int)(hR:qH (zH l k))(hb:∀s∈zH l k, -1000000000≤s.t∧s.t≤1000000000)(hn:l.length<2^31)(hS:(zH l k).length<256)
  (hJ:(Zx (zH l k)).length<256) (hf:∀s∈Zx (zH l k), -1000000000≤s.f∧s.f≤1000000000):
  CR Tryz.prog 27 [] [.p (zU l),.p (.int .i64 k)] [] (fun x rs=>rs=[]∧∃e,x=.p e∧ku 1 1114112 (fun j=>[.int .i64 (qG 0 j ((Zx (zH l k)).map Qy))]) e):=by
 refine zC mixed 13 [] Tryz.func27 rfl (by kernel_rfl) rfl (by simp) (by simp) ?_
 simp (maxSteps:=1000000) [go_sem,Tryz.f27]
 refine⟨⟨rfl,by simp[Tryz.f29]⟩,zd [] (Y3 l k hR hb hn hS) (by simp[go_sem]) ⟨by simp[go_sem],by simp[go_sem]⟩ (by simp[go_sem]) ?_⟩
 rintro _ rs ⟨rfl,rfl⟩
 generalize Zx (zH l k)=J at hJ hf
 obtain⟨M,hM⟩:∃M,M=J.map fun s=>ux (Qy s):=⟨_,rfl⟩
 have hMl:M.length=J.length:=by rw[hM];simp
 simp (maxSteps:=1000000) [go_sem,zB]
 refine zE (fun i:Nat=>i≤J.length) (fun i=>[(5,.os [5] 3 (M.take i)),(12,.p (.int .i64 i))]) (fun _=>[]) (fun i=>J.length-i) 0 (by omega) (by simp[go_sem,LeS,leV,leR,leA]) (fun i hi=>?_)
 simp (maxSteps:=1000000) [go_sem]
 refine zt (fun h=>?_) (fun h=>?_)
 ·have hil:i<J.length:=by omega
  have em:=zp zT J i hil
  have w1:IntKind.i64.wrap ((i:Int)+1)=((i+1:Nat):Int):=by rw[wrap64 (by omega) (by omega)];rfl
  have htake:M.take (i+1)=M.take i++[ux (Qy J[i])]:=by
   rw[List.take_add_one,hM,List.getElem?_map,List.getElem?_eq_getElem hil];rfl
  have hle:(M.take i).length≤256:=by rw[List.length_take];omega
  generalize J[i]=r at em htake
  simp (maxSteps:=1000000) [go_sem,em,h,zT,w1]
  refine⟨by rw[List.length_take]at hle;omega,zg (i+1) (by omega) (by simp[go_sem,LeS,leV,leR,leA,htake,ux,Qy]) (by omega)⟩
 ·have hil:i=J.length:=by omega
  subst hil
  have hall:M.take J.length=(J.map Qy).map ux:=by rw[←hMl,List.take_length,hM,List.map_map];rfl
  rw[hall]
  simp (maxSteps:=1000000) [go_sem]
  refine⟨⟨rfl,by simp[Tryz.f48]⟩,zd [] (zgg (J.map Qy) 1114112 (by omega) (by omega) (by simp;omega) (fun p hp=>?_)) (by simp[go_sem]) ⟨by simp[go_sem],by simp[go_sem,yE]⟩ (by simp[go_sem]) ?_⟩
  ·obtain⟨s,hs,rfl⟩:=List.mem_map.1 hp
   exact hf s hs
  rintro _ rs ⟨rfl,e,rfl,he⟩
  obtain⟨idx,blocks,rfl,he'⟩:=he
  simp (maxSteps:=1000000) [go_sem]
  exact zu [] (.p (.pt 3 (Qm 1 1114112 idx blocks))) ⟨rfl,by simp⟩ (by simp[go_sem,zf,leA,leT]) ⟨by simp[go_sem],_,rfl,idx,blocks,rfl,he'⟩
end Go.Proofs.YtcgfdhdcihmeeaaGreat
end
section
namespace Go.Proofs.YtcgfdhdcihmeeaaGreat
open Go.AM
set_option maxHeartbeats 4000000
set_option maxRecDepth 10000
def jR(s:Span)(c:Int):Int:=if s.t<c then -1 else if c<s.f then 1 else 0
def U2:PV:=.opq (.func (.func 87) #[] #[])
theorem Yv [Gi](s:Span)(c:Int):CR Tryz.prog 87 [] [.p (zT s),.p (.int .i64 c)] [] (is (.p (.int .i64 (jR s c)))):=by
 refine zC mixed 6 [] Tryz.func87 rfl (by kernel_rfl) rfl (by simp) (by simp) ?_
 simp[go_sem,Tryz.f87,zT]
 refine zt (fun h=>?_) (fun h=>?_)
 ·simp[go_sem]
  exact zh (.p (.int .i64 (-1))) rfl (by simp[go_sem,zf,leA,leT]) ⟨rfl,by simp[jR,h]⟩
 ·simp[go_sem]
  refine zt (fun h2=>?_) (fun h2=>?_)
  ·simp[go_sem]
   exact zh (.p (.int .i64 1)) rfl (by simp[go_sem,zf,leA,leT]) ⟨rfl,by simp[jR,h,h2]⟩
  ·simp[go_sem]
   exact zh (.p (.int .i64 0)) rfl (by simp[go_sem,zf,leA,leT]) ⟨rfl,by simp[jR,h,h2]⟩
theorem qH.lt:∀{l:List Span},qH l→∀i j (hi:i<l.length) (hj:j<l.length),i<j→l[i].t<l[j].f
 | [],_,i,j,hi,_,_=>by simp at hi
 |s::l,h,i,j,hi,hj,hij=>by
  cases j with
  |zero=>omega
  |succ j=>
   cases i with
   |zero=>exact h.2.1 _ (List.getElem_mem _)
   |succ i=>exact qH.lt h.2.2 i j _ _ (by omega)
theorem qH.le:∀{l:List Span},qH l→∀s∈l,s.f≤s.t
 | [],_,s,hs=>by simp at hs
 |a::l,h,s,hs=>by
  rcases List.mem_cons.1 hs with rfl|hs
  ·exact h.1
  ·exact qH.le h.2.2 s hs
theorem zkO {x:Int}(h1:0≤x)(h2:x≤9223372036854775807):IntKind.u64.wrap x=x:=by
 simp[IntKind.wrap,IntKind.signed,IntKind.bits];omega
def zlR(l:List Span)(c:Int)(x:AV):Prop:=(∃i:Nat,∃hi:i<l.length,x=.tup [.p (.int .i64 i),.p (.bool true)]∧l[i].f≤c∧c≤l[i].t)∨∃i:Nat,x=.tup [.p (.int .i64 i),.p (.bool false)]∧∀s∈l,¬(s.f≤c∧c≤s.t)
theorem zg3 [Gi](l:List Span)(c:Int)(hR:qH l)(hn:l.length<2^31):CR Tryz.prog 86 [] [.p (zB l),.p (.int .i64 c),.p U2] [] (fun x rs=>rs=[]∧zlR l c x):=by
 refine zC mixed 12 [] Tryz.func86 rfl (by kernel_rfl) rfl (by simp) (by simp) ?_
 simp[go_sem,Tryz.f86,zB]
 refine zE (fun r:Nat×Nat=>r.1≤r.2∧r.2≤l.length∧(∀i (hi:i<l.length),i<r.1→l[i].t<c)∧∀i (hi:i<l.length),r.2≤i→c≤l[i].t) (fun r=>[(9,.p (.int .i64 (r.1:Nat))),(10,.p (.int .i64 (r.2:Nat)))]) (fun _=>[]) (fun r=>r.2-r.1) (0,l.length) ⟨by simp,by simp,by simp,fun i hi h=>absurd h (by simpa using hi)⟩ (by simp[go_sem,LeS,leV,leR,leA]) (fun r hr=>?_)
 obtain⟨i,j⟩:=r
 obtain⟨h1,h2,h3,h4⟩:=hr
 simp only at h1 h2 h3 h4
 simp (maxSteps:=1000000) [go_sem]
 refine zt (fun h=>?_) (fun h=>?_)
 ·obtain⟨s,hs⟩:∃s,s=i+j:=⟨_,rfl⟩
  obtain⟨m,hm⟩:∃m,m=s/2:=⟨_,rfl⟩
  have w1:IntKind.i64.wrap ((i:Int)+j)=(s:Int):=by rw[wrap64 (by omega) (by omega)];omega
  have w2:IntKind.u64.wrap (s:Int)=(s:Int):=zkO (by omega) (by omega)
  have w3:(s:Int).fdiv 2=(m:Int):=by rw[Int.fdiv_eq_ediv_of_nonneg _ (by omega)];omega
  have w4:IntKind.i64.wrap (m:Int)=(m:Int):=wrap64 (by omega) (by omega)
  have w5:IntKind.i64.wrap ((m:Int)+1)=((m+1:Nat):Int):=by rw[wrap64 (by omega) (by omega)];rfl
  have hml:m<l.length:=by omega
  have em:=zp zT l m hml
  obtain⟨q,hq⟩:∃q,l[m]=q:=⟨_,rfl⟩
  rw[hq]at em
  simp (maxSteps:=1000000) [go_sem,w1,w2,w3,w4,em,zT,hml,U2]
  refine⟨⟨rfl,by simp[Tryz.f87]⟩,zd [] (Yv q c) (by simp[go_sem]) ⟨by simp[go_sem],by simp[go_sem,zT]⟩ (by simp[go_sem]) ?_⟩
  rintro _ rs ⟨rfl,rfl⟩
  simp (maxSteps:=1000000) [go_sem]
  refine zt (fun hb=>?_) (fun hb=>?_)
  ·have hb':q.t<c:=by
    unfold jR at hb
    split at hb
    ·assumption
    ·split at hb<;>omega
   simp (maxSteps:=1000000) [go_sem,w5]
   refine zg (m+1,j) ⟨by show m+1≤j;omega,h2,fun k hk hkm=>?_,h4⟩ (by simp[go_sem,LeS,leV,leR,leA]) (by show j- (m+1)<j-i;omega)
   by_cases e:k=m
   ·subst e;rw[hq];exact hb'
   ·have:=hR.lt k m hk hml (by simp at hkm;omega)
    have:=hR.le l[m] (List.getElem_mem _)
    rw[hq]at*
    omega
  ·have hb':c≤q.t:=by
    unfold jR at hb
    split at hb
    ·omega
    ·omega
   simp (maxSteps:=1000000) [go_sem]
   refine zg (i,m) ⟨by show i≤m;omega,by show m≤l.length;omega,h3,fun k hk hkm=>?_⟩ (by simp[go_sem,LeS,leV,leR,leA]) (by show m-i<j-i;omega)
   by_cases e:k=m
   ·subst e;rw[hq];exact hb'
   ·have:=hR.lt m k hml hk (by simp at hkm;omega)
    have:=hR.le l[k] (List.getElem_mem _)
    rw[hq]at*
    omega
 ·obtain rfl:i=j:=by omega
  by_cases hil:i<l.length
  ·have em:=zp zT l i hil
   have hc:=h4 i hil (Nat.le_refl _)
   have hrest:∀k,(hk:k<l.length)→k≠i→¬(l[k].f≤c∧c≤l[k].t):=fun k hk hki h=>by
    by_cases hk2:k<i
    ·have:=h3 k hk hk2
     omega
    ·have:=hR.lt i k hil hk (by omega)
     omega
   obtain⟨q,hq⟩:∃q,l[i]=q:=⟨_,rfl⟩
   rw[hq]at em hc
   simp (maxSteps:=1000000) [go_sem,em,zT,hil,U2]
   refine⟨⟨rfl,by simp[Tryz.f87]⟩,zd [] (Yv q c) (by simp[go_sem]) ⟨by simp[go_sem],by simp[go_sem,zT]⟩ (by simp[go_sem]) ?_⟩
   rintro _ rs ⟨rfl,rfl⟩
   simp (maxSteps:=1000000) [go_sem]
   by_cases hf:q.f≤c
   ·have hb:jR q c=0:=by unfold jR;rw[if_neg (by omega),if_neg (by omega)]
    simp (maxSteps:=1000000) [go_sem,hb]
    exact zh (.tup [.p (.int .i64 i),.p (.bool true)]) rfl (by simp[go_sem,zf,leA,leT,leP]) ⟨rfl,.inl ⟨i,hil,rfl,by rw[hq];exact⟨hf,hc⟩⟩⟩
   ·have hb:jR q c≠0:=by unfold jR;rw[if_neg (by omega),if_pos (by omega)];decide
    simp (maxSteps:=1000000) [go_sem,hb]
    refine zh (.tup [.p (.int .i64 i),.p (.bool false)]) rfl (by simp[go_sem,zf,leA,leT,leP]) ⟨rfl,.inr ⟨i,rfl,fun s hs hh=>?_⟩⟩
    obtain⟨k,hk,rfl⟩:=List.mem_iff_getElem.1 hs
    by_cases hki:k=i
    ·subst hki;rw[hq]at hh;exact hf hh.1
    ·exact hrest k hk hki hh
  ·simp (maxSteps:=1000000) [go_sem,hil]
   refine zh (.tup [.p (.int .i64 i),.p (.bool false)]) rfl (by simp[go_sem,zf,leA,leT,leP]) ⟨rfl,.inr ⟨i,rfl,fun s hs hh=>?_⟩⟩
   obtain⟨k,hk,rfl⟩:=List.mem_iff_getElem.1 hs
   have:=h3 k hk (by omega)
   omega
def atL(l:List Span)(c:Int):Option Span:=l.find? fun s=>decide (s.f≤c∧c≤s.t)
def atA(x:Option Span):AV:=match x with|some s=>.tup [.p (zT s),.p (.bool true)]|none=>.tup [.p (zT ⟨0,0,0,0⟩),.p (.bool false)]
theorem zd2:∀{l:List Span},qH l→∀c i (hi:i<l.length),l[i].f≤c→c≤l[i].t→atL l c=some l[i]
 | [],_,c,i,hi,_,_=>by simp at hi
 |s::l,h,c,i,hi,h1,h2=>by
  cases i with
  |zero=>simp only[List.getElem_cons_zero]at h1 h2;simp[atL,List.find?,h1,h2]
  |succ i=>
   have hi':i<l.length:=by simpa using hi
   simp only[List.getElem_cons_succ]at h1 h2⊢
   have h3:=h.2.1 l[i] (List.getElem_mem _)
   have:=zd2 h.2.2 c i hi' h1 h2
   unfold atL at this⊢
   rw[List.find?_cons_of_neg (by simp;omega),this]
theorem zeo [Gi](l:List Span)(c:Int)(hc: -1000000000≤c∧c≤1000000000)(hR:qH l)(hn:l.length<2^31):CR Tryz.prog 50 [] [.p (zB l),.p (.int .i32 c)] [] (is (atA (atL l c))):=by
 have w1:IntKind.i64.wrap c=c:=wrap64 (by omega) (by omega)
 refine zC mixed 9 [] Tryz.func50 rfl (by kernel_rfl) rfl (by simp) (by simp) ?_
 simp (maxSteps:=1000000) [go_sem,Tryz.f50,w1]
 refine⟨⟨rfl,by simp[Tryz.f86]⟩,zd [] (zg3 l c hR hn) (by simp[go_sem]) ⟨by simp[go_sem],by simp[go_sem,zB,U2]⟩ (by simp[go_sem]) ?_⟩
 rintro _ rs ⟨rfl,⟨i,hi,rfl,h1,h2⟩|⟨i,rfl,h1⟩⟩
 ·have em:=zp zT l i hi
  rw[zd2 hR c i hi h1 h2]
  generalize l[i]=q at em
  simp (maxSteps:=1000000) [go_sem,em,zT,hi,zB]
  exact zh (.tup [.p (zT q),.p (.bool true)]) rfl (by simp[go_sem,zf,leA,leT,leP,zT]) ⟨rfl,rfl⟩
 ·have e:atL l c=none:=by
   unfold atL
   rw[List.find?_eq_none]
   intro s hs
   simpa using h1 s hs
  rw[e]
  simp (maxSteps:=1000000) [go_sem]
  exact zh (.tup [.p (zT ⟨0,0,0,0⟩),.p (.bool false)]) rfl (by simp[go_sem,zf,leA,leT,leP,zT]) ⟨rfl,rfl⟩
end Go.Proofs.YtcgfdhdcihmeeaaGreat
end
section
namespace Go.Proofs.YtcgfdhdcihmeeaaGreat
open Go.AM
set_option maxHeartbeats 4000000
set_option maxRecDepth 10000
def ZP(a e:Int):List Span→Int
 | []=>e
 |s::l=>ZP a (if a<s.f∧s.f≤e then s.f-1 else e) l
theorem YY(a e:Int)(l m:List Span):ZP a e (l++m)=ZP a (ZP a e l) m:=by
 induction l generalizing e with
 |nil=>rfl
 |cons s l ih=>simp only[List.cons_append,ZP];exact ih _
theorem za4(a e:Int)(l:List Span):ZP a e l≤e:=by
 induction l generalizing e with
 |nil=>exact Int.le_refl _
 |cons s l ih=>simp only[ZP];refine Int.le_trans (ih _) ?_;split<;>omega
theorem zdV(a e:Int)(l:List Span):∀s∈l,¬(a<s.f∧s.f≤ZP a e l):=by
 induction l generalizing e with
 |nil=>simp
 |cons x l ih=>
  intro s hs h
  rcases List.mem_cons.1 hs with rfl|hs
  ·simp only[ZP]at h
   have:=za4 a (if a<s.f∧s.f≤e then s.f-1 else e) l
   generalize ZP a (if a<s.f∧s.f≤e then s.f-1 else e) l=u at this h
   split at this<;>omega
  ·exact ih _ s hs h
def zdt(Ls:List (List Span)):PV:=.agg (Ls.map zB)
theorem zkP [Gi](Ls:List (List Span))(a e:Int)(hn:Ls.length=4)(hl:∀l∈Ls,l.length<256)(hb:∀l∈Ls,∀s∈l, -1000000000≤s.f∧s.f≤1000000000):
  CR Tryz.prog 51 [] [.p (.int .i64 a),.p (.int .i64 e),.p (zdt Ls)] [] (is (.p (.int .i64 (ZP a e Ls.flatten)))):=by
 refine zC mixed 11 [11,12,15,16,17] Tryz.func51 rfl (by kernel_rfl) rfl (by simp) (by simp) ?_
 obtain⟨M,hM⟩:∃M,M=Ls.map zB:=⟨_,rfl⟩
 have hMl:M.length=4:=by rw[hM];simp[hn]
 simp only[zdt,←hM]
 simp (maxSteps:=1000000) [go_sem,Tryz.f51,hMl,Z8 hMl,zgb]
 refine zE (fun r:Nat=>r≤4) (fun r=>[(12,.p (.int .i64 (r:Nat))),(1,.p (.int .i64 (ZP a e (Ls.take r).flatten)))]) (fun _=>[]) (fun r=>4-r) 0 (by omega) (by simp[go_sem,LeS,leV,leR,leA,ZP,zi]) (fun i hi=>?_)
 simp (maxSteps:=1000000) [go_sem]
 refine zt (fun h=>?_) (fun h=>?_)
 ·have hil:i<Ls.length:=by omega
  have w1:IntKind.i64.wrap ((i:Int)+1)=((i+1:Nat):Int):=by rw[wrap64 (by omega) (by omega)];rfl
  have htake:(Ls.take (i+1)).flatten=(Ls.take i).flatten++Ls[i]:=by
   rw[List.take_add_one,List.getElem?_eq_getElem hil,List.flatten_append];exact congrArg _ (by simp)
  have hm:Ls[i]∈Ls:=List.getElem_mem _
  have hl':=hl _ hm
  have hb':=hb _ hm
  have em:M[i]?=some (zB Ls[i]):=by rw[hM,List.getElem?_map,List.getElem?_eq_getElem hil];rfl
  generalize Ls[i]=l at htake hm em hl' hb'
  simp (maxSteps:=1000000) [go_sem,em,zB]
  obtain⟨E0,hE0⟩:∃E0,E0=ZP a e (Ls.take i).flatten:=⟨_,rfl⟩
  refine⟨by omega,zE (fun j:Nat=>j≤l.length) (fun j=>[(17,.p (.int .i64 (j:Nat))),(1,.p (.int .i64 (ZP a E0 (l.take j))))]) (fun _=>[]) (fun j=>l.length-j) 0 (by omega) (by simp[go_sem,LeS,leV,leR,leA,ZP,zi,hE0]) (fun j hj=>?_)⟩
  simp (maxSteps:=1000000) [go_sem]
  refine zt (fun h2=>?_) (fun h2=>?_)
  ·have hjl:j<l.length:=by omega
   have em2:=zp zT l j hjl
   have w2:IntKind.i64.wrap ((j:Int)+1)=((j+1:Nat):Int):=by rw[wrap64 (by omega) (by omega)];rfl
   have hq:=hb' l[j] (List.getElem_mem _)
   have htk:ZP a E0 (l.take (j+1))=if a<l[j].f∧l[j].f≤ZP a E0 (l.take j)then l[j].f-1 else ZP a E0 (l.take j):=by
    rw[List.take_add_one,List.getElem?_eq_getElem hjl,YY];rfl
   generalize l[j]=q at em2 hq htk
   have w3:IntKind.i64.wrap (q.f-1)=q.f-1:=wrap64 (by omega) (by omega)
   generalize ZP a E0 (l.take j)=E1 at htk
   by_cases h3:a<q.f
   ·by_cases h4:q.f≤E1
    ·rw[if_pos ⟨h3,h4⟩]at htk
     simp (maxSteps:=1000000) [go_sem,em2,hjl,zT,h3,h4,w2,w3]
     exact zg (j+1) (by omega) (by simp[go_sem,LeS,leV,leR,leA,zi,htk]) (by omega)
    ·rw[if_neg (fun h=>h4 h.2)]at htk
     simp (maxSteps:=1000000) [go_sem,em2,hjl,zT,h3,h4,w2]
     exact zg (j+1) (by omega) (by simp[go_sem,LeS,leV,leR,leA,zi,htk]) (by omega)
   ·rw[if_neg (fun h=>h3 h.1)]at htk
    simp (maxSteps:=1000000) [go_sem,em2,hjl,zT,h3,w2]
    exact zg (j+1) (by omega) (by simp[go_sem,LeS,leV,leR,leA,zi,htk]) (by omega)
  ·obtain rfl:j=l.length:=by omega
   have hfin:ZP a E0 (l.take l.length)=ZP a e (Ls.take (i+1)).flatten:=by rw[List.take_length,htake,YY,hE0]
   simp (maxSteps:=1000000) [go_sem,w1]
   exact zg (i+1) (by omega) (by simp[go_sem,LeS,leV,leR,leA,zi,←hfin]) (by omega)
 ·obtain rfl:i=4:=by omega
  simp (maxSteps:=1000000) [go_sem]
  exact zh (.p (.int .i64 (ZP a e Ls.flatten))) rfl (by simp[go_sem,zf,leA,leT,←hn,List.take_length]) ⟨rfl,rfl⟩
end Go.Proofs.YtcgfdhdcihmeeaaGreat
end
section
namespace Go.Proofs.YtcgfdhdcihmeeaaGreat
open Go.AM
def qJ(l:List Span)(c:Int):Bool:=match atL l c with|some s=>s.a==1|none=>false
def yO(a e:Int):List (List Span)→Int
 | []=>e
 |l::Ls=>yO a (match atL l a with|some s=>min e s.t|none=>e) Ls
def Z0(A B C D:List Span)(c:Int):Flags:=⟨qJ A c,qJ B c,qJ C c,qJ D c⟩
def kS:Flags:=⟨false,false,false,false⟩
def x6(A B C D:List Span)(a:Int):Z3 Flags:=⟨a,ZP a (yO a 1114111 [A,B,C,D]) [A,B,C,D].flatten,Z0 A B C D a⟩
def jA(A B C D:List Span)(at_:List Int):List (Z3 Flags):=(at_.filter fun a=>Z0 A B C D a !=kS).map (x6 A B C D)
theorem zan {l:List Span} {c:Int} {s:Span}(h:atL l c=some s):s∈l∧s.f≤c∧c≤s.t:=by
 unfold atL at h
 exact⟨List.mem_of_find?_eq_some h,by simpa using List.find?_some h⟩
theorem zh0 {l:List Span}(hR:qH l) {c:Int} {s:Span}(hs:s∈l)(h1:s.f≤c)(h2:c≤s.t):atL l c=some s:=by
 obtain⟨i,hi,rfl⟩:=List.mem_iff_getElem.1 hs
 exact zd2 hR c i hi h1 h2
theorem zaw(a:Int):∀(Ls:List (List Span)) (e:Int),yO a e Ls≤e∧∀l∈Ls,∀s,atL l a=some s→yO a e Ls≤s.t
 | [],e=>⟨Int.le_refl _,by simp⟩
 |l::Ls,e=>by
  simp only[yO]
  cases h:atL l a with
  |none=>
   obtain⟨h1,h2⟩:=zaw a Ls e
   refine⟨h1,fun m hm s hs=>?_⟩
   rcases List.mem_cons.1 hm with rfl|hm
   ·rw[h]at hs;simp at hs
   ·exact h2 m hm s hs
  |some x=>
   obtain⟨h1,h2⟩:=zaw a Ls (min e x.t)
   refine⟨by simp only;omega,fun m hm s hs=>?_⟩
   rcases List.mem_cons.1 hm with rfl|hm
   ·rw[h]at hs;injection hs with hs;subst hs;simp only;omega
   ·exact h2 m hm s hs
theorem zel(a j:Int):∀(Ls:List (List Span)) (e:Int),j≤e→(∀l∈Ls,∀s,atL l a=some s→j≤s.t)→j≤yO a e Ls
 | [],e,h,_=>h
 |l::Ls,e,h,hs=>by
  simp only[yO]
  apply zel a j Ls
  ·cases h':atL l a with
   |none=>exact h
   |some x=>have:=hs l (by simp) x h';simp only;omega
  ·exact fun m hm s h=>hs m (by simp[hm]) s h
theorem zfN(a j:Int)(l:List Span):∀e,j≤e→(∀s∈l,¬(a<s.f∧s.f≤j))→j≤ZP a e l:=by
 induction l with
 |nil=>exact fun e h _=>h
 |cons s l ih=>
  intro e h hs
  simp only[ZP]
  apply ih
  ·have:=hs s (by simp)
   split<;>omega
  ·exact fun x hx=>hs x (by simp[hx])
theorem WN {l:List Span}(hR:qH l) {a j:Int}(h0:a≤j)(h1:∀s,atL l a=some s→j≤s.t)(h2:∀s∈l,¬(a<s.f∧s.f≤j)):atL l j=atL l a:=by
 cases h:atL l a with
 |some s=>
  obtain⟨h3,h4,h5⟩:=zan h
  exact zh0 hR h3 (by omega) (h1 s h)
 |none=>
  cases h':atL l j with
  |none=>rfl
  |some s=>
   obtain⟨h3,h4,h5⟩:=zan h'
   by_cases hf:s.f≤a
   ·have:=zh0 hR h3 hf (by omega)
    rw[h]at this;simp at this
   ·exact absurd ⟨by omega,h4⟩ (h2 s h3)
theorem V8 {A B C D:List Span}(hA:qH A)(hB:qH B)(hC:qH C)(hD:qH D) {a j:Int}(h0:a≤j)(h1:∀l∈[A,B,C,D],∀s,atL l a=some s→j≤s.t)(h2:∀l∈[A,B,C,D],∀s∈l,¬(a<s.f∧s.f≤j)):
  Z0 A B C D j=Z0 A B C D a:=by
 simp only[Z0,qJ]
 rw[WN hA h0 (h1 A (by simp)) (h2 A (by simp)),WN hB h0 (h1 B (by simp)) (h2 B (by simp)),WN hC h0 (h1 C (by simp)) (h2 C (by simp)),WN hD h0 (h1 D (by simp)) (h2 D (by simp))]
theorem J3 {A B C D:List Span}(hA:qH A)(hB:qH B)(hC:qH C)(hD:qH D) {a j:Int}(h0:a≤j)(h1:j≤(x6 A B C D a).t):Z0 A B C D j=Z0 A B C D a:=by
 simp only[x6]at h1
 have h2:=za4 a (yO a 1114111 [A,B,C,D]) [A,B,C,D].flatten
 have h3:=zdV a (yO a 1114111 [A,B,C,D]) [A,B,C,D].flatten
 obtain⟨_,h4⟩:=zaw a [A,B,C,D] 1114111
 refine V8 hA hB hC hD h0 (fun l hl s hs=>?_) (fun l hl s hs h=>h3 s (List.mem_flatten.2 ⟨l,hl,hs⟩) ⟨h.1,by omega⟩)
 have:=h4 l hl s hs
 omega
theorem zb9 {α:Type}(zero:α)(j:Int)(v:α):∀l:List (Z3 α),(∀p∈l,p.f≤j→j≤p.t→p.v=v)→((∃p∈l,p.f≤j∧j≤p.t)∨v=zero)→qG zero j l=v
 | [],_,h=>by rcases h with ⟨p,hp,_⟩|h;simp at hp;exact h.symm
 |p::l,h1,h2=>by
  simp only[qG]
  split
  ·rename_i h;exact h1 p (by simp) h.1 h.2
  ·rename_i h
   apply zb9 zero j v l (fun q hq=>h1 q (by simp[hq]))
   rcases h2 with ⟨q,hq,h3⟩|h2
   ·rcases List.mem_cons.1 hq with rfl|hq
    ·exact absurd h3 h
    ·exact .inl ⟨q,hq,h3⟩
   ·exact .inr h2
theorem ziF(at_:List Int)(j:Int)(h0:∃a∈at_,a≤j):∃a∈at_,a≤j∧∀b∈at_,b≤j→b≤a:=by
 induction at_ with
 |nil=>obtain⟨a,ha,_⟩:=h0;simp at ha
 |cons x l ih=>
  by_cases hl:∃a∈l,a≤j
  ·obtain⟨a,ha,h1,h2⟩:=ih hl
   by_cases hx:x≤j∧a≤x
   ·refine⟨x,by simp,hx.1,fun b hb hbj=>?_⟩
    rcases List.mem_cons.1 hb with rfl|hb
    ·exact Int.le_refl _
    ·have:=h2 b hb hbj;omega
   ·refine⟨a,by simp[ha],h1,fun b hb hbj=>?_⟩
    rcases List.mem_cons.1 hb with rfl|hb
    ·omega
    ·exact h2 b hb hbj
  ·obtain⟨a,ha,h1⟩:=h0
   rcases List.mem_cons.1 ha with rfl|ha
   ·refine⟨a,by simp,h1,fun b hb hbj=>?_⟩
    rcases List.mem_cons.1 hb with rfl|hb
    ·exact Int.le_refl _
    ·exact absurd ⟨b,hb,hbj⟩ hl
   ·exact absurd ⟨a,ha,h1⟩ hl
theorem zef {A B C D:List Span}(hA:qH A)(hB:qH B)(hC:qH C)(hD:qH D) {at_:List Int}(h0:0∈at_)(h1:∀l∈[A,B,C,D],∀s∈l,s.f∈at_∧s.t+1∈at_) {j:Int}(hj0:0≤j)(hj:j≤1114111):
  qG kS j (jA A B C D at_)=Z0 A B C D j:=by
 refine zb9 kS j _ _ (fun p hp hf ht=>?_) ?_
 ·obtain⟨a,ha,rfl⟩:=List.mem_map.1 hp
  exact(J3 hA hB hC hD hf ht).symm
 ·obtain⟨a,ha,h2,h3⟩:=ziF at_ j ⟨0,h0,hj0⟩
  have ht:∀l∈[A,B,C,D],∀s,atL l a=some s→j≤s.t:=fun l hl s hs=>by
   obtain⟨h4,h5,h6⟩:=zan hs
   apply Classical.byContradiction
   intro hn
   have:=h3 _ (h1 l hl s h4).2 (by omega)
   omega
  have hf:∀l∈[A,B,C,D],∀s∈l,¬(a<s.f∧s.f≤j):=fun l hl s hs h=>by
   have:=h3 _ (h1 l hl s hs).1 h.2
   omega
  have e:=V8 hA hB hC hD h2 ht hf
  by_cases hz:Z0 A B C D a=kS
  ·exact .inr (e.trans hz)
  ·refine .inl ⟨x6 A B C D a,List.mem_map.2 ⟨a,List.mem_filter.2 ⟨ha,by simpa using hz⟩,rfl⟩,h2,?_⟩
   exact zfN a j _ _ (zel a j _ _ hj ht) (fun s hs=>by
    obtain⟨l,hl,hs⟩:=List.mem_flatten.1 hs
    exact hf l hl s hs)
end Go.Proofs.YtcgfdhdcihmeeaaGreat
end
section
namespace Go.Proofs.YtcgfdhdcihmeeaaGreat
open Go.AM
set_option maxHeartbeats 4000000
set_option maxRecDepth 10000
def zn6:OT:=.now 0 0 (.now 1 0 (.now 2 0 (.now 3 2 (.now 4 2 (.mk [(5,.now 6 2 (.mk [(7,.mk [(8,.mk [])])])),(7,.now 5 0 (.now 6 0 (.mk [(8,.mk [])])))])))))
def jz(K:List Int):List PV:=K.map fun k=>.int .i64 k
def qq(K:List Int):List PV:=K.map fun _=>.bool true
def ki(c:Int)(K:List Int):List Int:=if c∈K then K else K++[c]
theorem Jn(c d:Int)(K:List Int):d∈ki c K↔d=c∨d∈K:=by
 unfold ki
 split
 ·rename_i h
  constructor
  ·exact .inr
  ·rintro(rfl|h')
   ·exact h
   ·exact h'
 ·simp[or_comm]
theorem zcA(K:List Int):(jz K).all (fun k=>okC [.i .i64] k.cells)=true:=by
 simp[jz,okC,PV.cells]
theorem JA(c:Int)(K:List Int):j5 (.int .i64 c) (jz K) (qq K)=jz (ki c K)∧j9 (.int .i64 c) (.bool true) (jz K) (qq K)=qq (ki c K):=by
 have hn:=jw (kc:=[.i .i64]) (key:=[.int .i64 c]) rfl (ks:=jz K) (xs:=qq K) (i:=0) (zcA K) (by simp[jz,qq])
 have hc:(PV.int .i64 c).cells=[.int .i64 c]:=rfl
 by_cases h:c∈K
 ·have hs:qQ [.int .i64 c] (jz K) (qq K) 0≠none:=fun e=>by
   have:=hn.1 e (.int .i64 c) (by simp[jz,h])
   exact this rfl
  obtain⟨⟨j,x⟩,hj⟩:=Option.ne_none_iff_exists'.1 hs
  obtain⟨_,k,h3,h4,h5⟩:=Zz (kc:=[.i .i64]) rfl (zcA K) hj
  have hx:x=.bool true:=by
   simp only[qq,List.getElem?_map,Option.map_eq_some_iff]at h5
   obtain⟨_,_,rfl⟩:=h5;rfl
  subst hx
  constructor
  ·simp only[j5,hc,hj,ki,if_pos h];rfl
  ·simp only[j9,hc,hj,ki,if_pos h]
   exact k8 (by simpa using h5)
 ·have hs:qQ [.int .i64 c] (jz K) (qq K) 0=none:=hn.2 fun k hk e=>by
   obtain⟨d,hd,rfl⟩:=List.mem_map.1 hk
   simp only[PV.cells]at e
   injection e with e _;injection e with _ e;subst e
   exact h hd
  constructor
  ·simp only[j5,hc,hs,ki,if_neg h];simp[jz]
  ·simp only[j9,hc,hs,ki,if_neg h];simp[qq]
theorem zgB(K:List Int):(jz K).length=K.length:=by simp[jz]
theorem Xg(K:List Int):∀x:PV,x∈jz K→(match x with|.agg _=>true|_=>false)=false∧okC [.i .i64] (match x with|.agg cs=>cs|x=>[x])=true:=fun x h=>by
 obtain⟨d,_,rfl⟩:=List.mem_map.1 h;exact⟨rfl,rfl⟩
structure zch(Ls:List (List Span))(i:Nat)(l:List Span)(j:Nat)(K:List Int):Prop where
 z:0∈K
 a:∀m∈Ls.take i,∀s∈m,s.f∈K∧s.t+1∈K
 b:∀s∈l.take j,s.f∈K∧s.t+1∈K
 o:∀c∈K,c=0∨∃m∈Ls,∃s∈m,c=s.f∨c=s.t+1
 n:K.length≤1+i*512+2*j
theorem zb4(c:Int)(K:List Int):(ki c K).length≤K.length+1:=by
 unfold ki;split<;>simp
theorem zch.next {Ls:List (List Span)} {i:Nat} {l:List Span} {j:Nat} {K:List Int}(h:zch Ls i l j K)(hl:l∈Ls)(hj:j<l.length):zch Ls i l (j+1) (ki (l[j].t+1) (ki l[j].f K)):=by
 have hm:∀d,d∈K→d∈ki (l[j].t+1) (ki l[j].f K):=fun d hd=>by simp[Jn,hd]
 refine⟨hm _ h.z,fun m hm' s hs=>⟨hm _ (h.a m hm' s hs).1,hm _ (h.a m hm' s hs).2⟩,fun s hs=>?_,fun c hc=>?_,?_⟩
 ·rw[List.take_add_one,List.getElem?_eq_getElem hj]at hs
  rcases List.mem_append.1 hs with hs|hs
  ·exact⟨hm _ (h.b s hs).1,hm _ (h.b s hs).2⟩
  ·simp only[Option.toList_some,List.mem_singleton]at hs
   subst hs
   simp[Jn]
 ·simp only[Jn]at hc
  rcases hc with rfl|rfl|hc
  ·exact .inr ⟨l,hl,l[j],List.getElem_mem _,.inr rfl⟩
  ·exact .inr ⟨l,hl,l[j],List.getElem_mem _,.inl rfl⟩
  ·exact h.o c hc
 ·have:=zb4 (l[j].t+1) (ki l[j].f K)
  have:=zb4 l[j].f K
  have:=h.n
  omega
theorem zch.out {Ls:List (List Span)} {i:Nat} {l:List Span} {K:List Int}(hi:i<Ls.length)(hl:Ls[i]=l)(hn:l.length<256)(h:zch Ls i l l.length K)(l':List Span):zch Ls (i+1) l' 0 K:=by
 refine⟨h.z,fun m hm s hs=>?_,by simp,h.o,by have:=h.n;omega⟩
 rw[List.take_add_one,List.getElem?_eq_getElem hi]at hm
 rcases List.mem_append.1 hm with hm|hm
 ·exact h.a m hm s hs
 ·simp only[Option.toList_some,List.mem_singleton]at hm
  subst hm
  rw[hl]at hs
  exact h.b s (by rw[List.take_length];exact hs)
@[go_sem] theorem zmQ (t : Tok) (l : List Nat) (c : Option Nat) : (AV.upd (itz t l c) ∘ AV.p) = AV.p := rfl
theorem zmv [Gi](Ls:List (List Span))(hn:Ls.length<16)(hl:∀l∈Ls,l.length<256)(hb:∀l∈Ls,∀s∈l, -1000000000≤s.t∧s.t≤1000000000):
  CR Tryz.prog 49 [[0]] [.la [0] 1 0 Ls.length] [([0],(Ls.map zB).map .p)] (fun x rs=>rs=[([0],(Ls.map zB).map .p)]∧∃at_:List Int,x=.p (.sl 1 (at_.map fun k=>.int .i64 k))∧0∈at_∧(∀l∈Ls,∀s∈l,s.f∈at_∧s.t+1∈at_)∧(∀c∈at_,c=0∨∃l∈Ls,∃s∈l,c=s.f∨c=s.t+1)∧at_.length≤10000):=by
 refine zR [200008] mixed 10 [12,13,14,18,19,20,34] Tryz.func49 rfl (by kernel_rfl) rfl (by simp) (by simp) ?_
 obtain⟨u1,u2⟩:=JA 0 []
 have u3:ki 0 []=[0]:=rfl
 rw[u3]at u1 u2
 have k1:jz []=[]:=rfl
 have k2:qq []=[]:=rfl
 rw[k1,k2]at u1 u2
 obtain⟨M,hM⟩:∃M,M=Ls.map zB:=⟨_,rfl⟩
 have hMl:M.length=Ls.length:=by rw[hM];simp
 simp only[←hM]
 simp (maxSteps:=1000000) [go_sem,Tryz.f49,u1,u2]
 refine zE (fun r:Nat×List Int=>r.1≤Ls.length∧zch Ls r.1 [] 0 r.2) (fun r=>[(14,.p (.int .i64 (r.1:Nat))),(3,.om [10] (jz r.2) (qq r.2))]) (fun _=>[]) (fun r=>Ls.length-r.1) (0,[0]) ⟨Nat.zero_le _,by simp,by simp,by simp,by simp,by simp⟩ (by simp[go_sem,LeS,leV,leR,leA,zi]) (fun r hr=>?_)
 obtain⟨i,K⟩:=r
 obtain⟨h1,h2⟩:=hr
 simp only at h1 h2
 simp (maxSteps:=1000000) [go_sem]
 refine zt (fun h=>?_) (fun h=>?_)
 ·have hil:i<Ls.length:=by omega
  have em:M[i]?=some (zB Ls[i]):=by rw[hM,List.getElem?_map,List.getElem?_eq_getElem hil];rfl
  have hm:Ls[i]∈Ls:=List.getElem_mem _
  obtain⟨l,el⟩:∃l,Ls[i]=l:=⟨_,rfl⟩
  rw[el]at em hm
  have w1:IntKind.i64.wrap ((i:Int)+1)=((i+1:Nat):Int):=by rw[wrap64 (by omega) (by omega)];rfl
  simp (maxSteps:=1000000) [go_sem,em,h,zB]
  refine zE (fun r:Nat×List Int=>r.1≤l.length∧zch Ls i l r.1 r.2) (fun r=>[(20,.p (.int .i64 (r.1:Nat))),(3,.om [10] (jz r.2) (qq r.2))]) (fun _=>[]) (fun r=>l.length-r.1) (0,K) ⟨Nat.zero_le _,h2.z,h2.a,by simp,h2.o,h2.n⟩ (by simp[go_sem,LeS,leV,leR,leA,zi]) (fun r hr=>?_)
  obtain⟨j,K'⟩:=r
  obtain⟨h3,h4⟩:=hr
  simp only at h3 h4
  simp (maxSteps:=1000000) [go_sem]
  have hl':=hl l hm
  refine zt (fun hj=>?_) (fun hj=>?_)
  ·have hjl:j<l.length:=by omega
   have em2:=zp zT l j hjl
   have hx:=hb l hm l[j] (List.getElem_mem _)
   have hnext:=h4.next hm hjl
   have w2:IntKind.i64.wrap ((j:Int)+1)=((j+1:Nat):Int):=by rw[wrap64 (by omega) (by omega)];rfl
   have w3:IntKind.i64.wrap (l[j].t+1)=l[j].t+1:=wrap64 (by omega) (by omega)
   obtain⟨v1,v2⟩:=JA l[j].f K'
   obtain⟨v3,v4⟩:=JA (l[j].t+1) (ki l[j].f K')
   generalize l[j]=q at em2 hx hnext w3 v1 v2 v3 v4
   simp (maxSteps:=1000000) [go_sem,em2,hj,zT]
   refine Qr zn6 (by kernel_rfl) ?_
   simp (maxSteps:=1000000) [go_sem,zn6,w2,w3,v1,v2,v3,v4]
   exact⟨Xg K',Xg _,zg (j+1,ki (q.t+1) (ki q.f K')) ⟨hjl,hnext⟩ (by simp[go_sem,LeS,leV,leR,leA,zi]) (by show l.length- (j+1)<l.length-j;omega)⟩
  ·have hjl:j=l.length:=by omega
   subst hjl
   simp (maxSteps:=1000000) [go_sem,w1]
   exact zg (i+1,K') ⟨hil,h4.out hil el hl' []⟩ (by simp[go_sem,LeS,leV,leR,leA,zi]) (by show Ls.length- (i+1)<Ls.length-i;omega)
 ·have hil:i=Ls.length:=by omega
  subst hil
  have hk:=h2.n
  simp (maxSteps:=1000000) [go_sem,h]
  refine zE (fun r:List Int×List Nat×Option Nat=>(∀k,(hk:k<K.length)→k∈r.2.1∨K[k]∈r.1)∧(∀c∈r.1,c∈K)∧r.1.length+r.2.1.length≤K.length∧∀k∈r.2.1,k<K.length)
   (fun r=>[(8,.os [8] 1 (r.1.map fun k=>.int .i64 k)),(34,.it [34] (jz K) (qq K) r.2.1 r.2.2)]) (fun _=>[]) (fun r=>r.2.1.length) ([],List.range K.length,none) ⟨fun k hk=>.inl (List.mem_range.2 hk),by simp,by simp,fun k hk=>List.mem_range.1 hk⟩ (by simp[go_sem,LeS,leV,leR,leA,zgB,zi]) (fun r hr=>?_)
  obtain⟨done,left,cur⟩:=r
  obtain⟨q1,q2,q3,q4⟩:=hr
  simp only at q1 q2 q3 q4
  simp (maxSteps:=1000000) [go_sem]
  refine⟨?_,?_⟩
  ·rintro rfl
   have ha:∀c,c∈K→c∈done:=fun c hc=>by
    obtain⟨k,hk',rfl⟩:=List.mem_iff_getElem.1 hc
    rcases q1 k hk' with h|h
    ·simp at h
    ·exact h
   exact zu [[0]] (.p (.sl 1 (done.map fun k=>.int .i64 k))) ⟨rfl,by simp⟩ (by simp[go_sem,zf,leA,leT]) ⟨by simp[go_sem,hM,Function.comp_def],done,rfl,ha _ h2.z,fun l hl s hs=>⟨ha _ (h2.a l (by simpa using hl) s hs).1,ha _ (h2.a l (by simpa using hl) s hs).2⟩,fun c hc=>h2.o c (q2 c hc),by simp at q3;omega⟩
  ·intro k hk
   have hkl:=q4 k hk
   have em:elemAt (jz K) k=.int .i64 K[k]:=zp (fun k=>PV.int .i64 k) K k hkl
   have hlt:(left.filter (· !=k)).length<left.length:=List.length_filter_lt_length_iff_exists.2 ⟨k,hk,by simp⟩
   have hdl:done.length≤10000:=by omega
   simp (maxSteps:=1000000) [go_sem,em]
   refine⟨by omega,zg (done++[K[k]],left.filter (· !=k),some k) ⟨fun m hm=>?_,fun c hc=>?_,by simp;omega,fun m hm=>q4 m (List.mem_filter.1 hm).1⟩ (by simp[go_sem,LeS,leV,leR,leA,zi]) hlt⟩
   ·by_cases hmk:m=k
    ·subst hmk;exact .inr (by simp)
    ·rcases q1 m hm with h|h
     ·exact .inl (List.mem_filter.2 ⟨h,by simpa using hmk⟩)
     ·exact .inr (by simp[h])
   ·rcases List.mem_append.1 hc with h|h
    ·exact q2 c h
    ·rw[List.mem_singleton.1 h];exact List.getElem_mem _
end Go.Proofs.YtcgfdhdcihmeeaaGreat
end
