/- A part of this seat's proofs, by an abstract machine. Conditions: each law's. -/
import Derived.Test.YtfjdbbpimklecaaGreatDoorV18
import Derived.Test.YtfjdbbpimklecaaGreatDoorV19
import Derived.Test.YtfjdbbpimklecaaGreatDoorV17
set_option maxHeartbeats 4000000
set_option maxRecDepth 10000
namespace Go.Proofs.YtfjdbbpimklecaaGreatDoor
section
open Go.AM
def QN(r:Row):Span:=⟨max r.f 0,min r.t 1114111,r.a,r.b⟩
def zE(l:List Row)(k:Int):List Span:=(l.filter fun r=>r.k==k).map QN
theorem WK(a b:List Row)(k:Int):zE (a++b) k=zE a k++zE b k:=by simp[zE]
theorem YT(r:Row)(k:Int):zE [r] k=if r.k=k then [QN r]else []:=by
 by_cases hk:r.k=k<;>simp[zE,hk]
def qw:List Span→Prop
 | []=>True
 |s::l=>s.f≤s.t∧(∀x∈l,s.t<x.f)∧qw l
theorem qw.app {a:List Span} {s:Span} {b:List Span}(h:qw (a++s::b)):s.f≤s.t∧∀x∈a,x.t<s.f:=by
 induction a with
 |nil=>exact⟨h.1,by simp⟩
 |cons x a ih=>
  obtain⟨h1,h2,h3⟩:=h
  obtain⟨i1,i2⟩:=ih h3
  refine⟨i1,fun y hy=>?_⟩
  rcases List.mem_cons.1 hy with rfl|hy
  ·exact h2 s (by simp)
  ·exact i2 y hy
theorem qw.left:∀{a b:List Span},qw (a++b)→qw a
 | [],_,_=>trivial
 |s::a,b,h=>⟨h.1,fun x hx=>h.2.1 x (by simp[hx]),qw.left h.2.2⟩
theorem qw.up:∀{l:List Span},qw l→Up l
 | [],_=>fun i j x y _ h=>by simp at h
 |s::l,h=>by
  have ih:=qw.up h.2.2
  intro i j x y hij hi hj
  cases j with
  |zero=>
   obtain rfl:i=0:=by omega
   simp at hi hj
   subst hi;subst hj;exact Int.le_refl _
  |succ j=>
   cases i with
   |zero=>
    simp at hi hj
    subst hi
    have:=h.2.1 y (List.mem_of_getElem? hj)
    have:=h.1
    omega
   |succ i=>exact ih i j x y (by omega) (by simpa using hi) (by simpa using hj)
theorem KM [Gi](l:List Row)(k:Int)(hR:qw (zE l k))(hb:∀s∈zE l k, -1000000000≤s.t∧s.t≤1000000000)(hn:l.length<2^31)(hS:(zE l k).length<256):
  CR Tryz.prog 59 [] [.p (qJ l),.p (.int .i64 k)] [] (is (.p (zA (Zq (zE l k))))):=by
 refine zH mixed 13 [] Tryz.func59 rfl (by kernel_rfl) rfl (by simp) (by simp) ?_
 simp (maxSteps:=1000000) [go_sem,Tryz.f59,qJ]
 refine zF (fun i:Nat=>i≤l.length) (fun i=>[(5,.os [5] 4 ((zE (l.take i) k).map zO)),(12,.p (.int .i64 i))]) (fun _=>[]) (fun i=>l.length-i) 0 (by omega) (by simp[go_sem,LeS,leV,leR,leA,zE]) (fun i hi=>?_)
 simp (maxSteps:=1000000) [go_sem]
 refine zq (fun h=>?_) (fun h=>?_)
 ·have hil:i<l.length:=by omega
  have em:=zu rowP l i hil
  have w1:IntKind.i64.wrap ((i:Int)+1)=((i+1:Nat):Int):=by rw[wrap64 (by omega) (by omega)];rfl
  have htake:l.take (i+1)=l.take i++[l[i]]:=by rw[List.take_add_one,List.getElem?_eq_getElem hil];rfl
  have hsp:zE (l.take (i+1)) k=zE (l.take i) k++(if l[i].k=k then [QN l[i]]else []):=by rw[htake,WK,YT]
  have hall:zE l k=zE (l.take (i+1)) k++zE (l.drop (i+1)) k:=by rw[←WK,List.take_append_drop]
  have hrise:l[i].k=k→qw (zE (l.take i) k++[QN l[i]]):=fun hk=>by
   rw[hall,hsp,if_pos hk]at hR
   exact hR.left
  have hlen:(zE (l.take (i+1)) k).length<256:=by
   rw[hall,List.length_append]at hS;omega
  generalize l[i]=r at em hsp hrise
  simp (maxSteps:=1000000) [go_sem,em,h,rowP]
  refine yh (fun hk=>?_) (fun hk=>?_)
  ·rw[if_neg hk,List.append_nil]at hsp
   simp (maxSteps:=1000000) [go_sem,w1]
   exact zj (i+1) (by omega) (by simp[go_sem,LeS,leV,leR,leA,hsp]) (by omega)
  ·rw[if_pos hk]at hsp
   obtain⟨r1,r2⟩:=(hrise hk).app
   have hl1:(zE (l.take i) k++[QN r]).length<256:=by rw[←hsp];exact hlen
   simp (maxSteps:=1000000) [go_sem]
   refine⟨⟨rfl,by simp[Tryz.f109]⟩,zh [] (zgR (QN r) (zE (l.take i) k) r1 r2 (by simp at hl1;omega)) (by simp[go_sem]) ⟨by simp[go_sem],by simp[go_sem,QN,zO,zA]⟩ (by simp[go_sem]) ?_⟩
   rintro _ rs ⟨rfl,rfl⟩
   simp (maxSteps:=1000000) [go_sem,zA]
   refine⟨by simp at hl1;omega,⟨rfl,by simp[Tryz.f110]⟩,zh [] (zg1 (zE (l.take i) k++[QN r]) (hrise hk).up (by simp) hl1) (by simp[go_sem]) ⟨by simp[go_sem],by simp[go_sem,zA,byV]⟩ (by simp[go_sem]) ?_⟩
   rintro _ rs ⟨rfl,rfl⟩
   simp (maxSteps:=1000000) [go_sem,w1]
   exact zj (i+1) (by omega) (by simp[go_sem,LeS,leV,leR,leA,hsp]) (by omega)
 ·have hil:i=l.length:=by omega
  subst hil
  simp (maxSteps:=1000000) [go_sem]
  refine⟨⟨rfl,by simp[Tryz.f111]⟩,zh [] (zcQ (zE l k) (by omega) hb) (by simp[go_sem]) ⟨by simp[go_sem],by simp[go_sem,zA]⟩ (by simp[go_sem]) ?_⟩
  rintro _ rs ⟨rfl,rfl⟩
  simp (maxSteps:=1000000) [go_sem,zA]
  exact zn (.p (zA (Zq (zE l k)))) rfl (by simp[go_sem,zg,leA,leT,zA]) ⟨rfl,rfl⟩
def Z2(s:Span):Piece Int:=⟨s.f,s.t,s.a⟩
theorem zaV [Gi](l:List Row)(k:Int)(hR:qw (zE l k))(hb:∀s∈zE l k, -1000000000≤s.t∧s.t≤1000000000)(hn:l.length<2^31)(hS:(zE l k).length<256)
  (hJ:(Zq (zE l k)).length<256) (hf:∀s∈Zq (zE l k), -1000000000≤s.f∧s.f≤1000000000):
  CR Tryz.prog 57 [] [.p (qJ l),.p (.int .i64 k)] [] (fun x rs=>rs=[]∧∃e,x=.p e∧jy 1 1114112 (fun j=>[.int .i64 (qv 0 j ((Zq (zE l k)).map Z2))]) e):=by
 refine zH mixed 13 [] Tryz.func57 rfl (by kernel_rfl) rfl (by simp) (by simp) ?_
 simp (maxSteps:=1000000) [go_sem,Tryz.f57]
 refine⟨⟨rfl,by simp[Tryz.f59]⟩,zh [] (KM l k hR hb hn hS) (by simp[go_sem]) ⟨by simp[go_sem],by simp[go_sem]⟩ (by simp[go_sem]) ?_⟩
 rintro _ rs ⟨rfl,rfl⟩
 generalize Zq (zE l k)=J at hJ hf
 obtain⟨M,hM⟩:∃M,M=J.map fun s=>vn (Z2 s):=⟨_,rfl⟩
 have hMl:M.length=J.length:=by rw[hM];simp
 simp (maxSteps:=1000000) [go_sem,zA]
 refine zF (fun i:Nat=>i≤J.length) (fun i=>[(5,.os [5] 3 (M.take i)),(12,.p (.int .i64 i))]) (fun _=>[]) (fun i=>J.length-i) 0 (by omega) (by simp[go_sem,LeS,leV,leR,leA]) (fun i hi=>?_)
 simp (maxSteps:=1000000) [go_sem]
 refine zq (fun h=>?_) (fun h=>?_)
 ·have hil:i<J.length:=by omega
  have em:=zu zO J i hil
  have w1:IntKind.i64.wrap ((i:Int)+1)=((i+1:Nat):Int):=by rw[wrap64 (by omega) (by omega)];rfl
  have htake:M.take (i+1)=M.take i++[vn (Z2 J[i])]:=by
   rw[List.take_add_one,hM,List.getElem?_map,List.getElem?_eq_getElem hil];rfl
  have hle:(M.take i).length≤256:=by rw[List.length_take];omega
  generalize J[i]=r at em htake
  simp (maxSteps:=1000000) [go_sem,em,h,zO,w1]
  refine⟨by rw[List.length_take]at hle;omega,zj (i+1) (by omega) (by simp[go_sem,LeS,leV,leR,leA,htake,vn,Z2]) (by omega)⟩
 ·have hil:i=J.length:=by omega
  subst hil
  have hall:M.take J.length=(J.map Z2).map vn:=by rw[←hMl,List.take_length,hM,List.map_map];rfl
  rw[hall]
  simp (maxSteps:=1000000) [go_sem]
  refine⟨⟨rfl,by simp[Tryz.f102]⟩,zh [] (zdm (J.map Z2) 1114112 (by omega) (by omega) (by simp;omega) (fun p hp=>?_)) (by simp[go_sem]) ⟨by simp[go_sem],by simp[go_sem,ko]⟩ (by simp[go_sem]) ?_⟩
  ·obtain⟨s,hs,rfl⟩:=List.mem_map.1 hp
   exact hf s hs
  rintro _ rs ⟨rfl,e,rfl,he⟩
  obtain⟨idx,blocks,rfl,he'⟩:=he
  simp (maxSteps:=1000000) [go_sem]
  exact zt [] (.p (.pt 3 (ZT 1 1114112 idx blocks))) ⟨rfl,by simp⟩ (by simp[go_sem,zg,leA,leT]) ⟨by simp[go_sem],_,rfl,idx,blocks,rfl,he'⟩
def Q2(s:Span)(c:Int):Int:=if s.t<c then -1 else if c<s.f then 1 else 0
def Vr:PV:=.opq (.func (.func 158) #[] #[])
theorem KT [Gi](s:Span)(c:Int):CR Tryz.prog 158 [] [.p (zO s),.p (.int .i64 c)] [] (is (.p (.int .i64 (Q2 s c)))):=by
 refine zH mixed 6 [] Tryz.func158 rfl (by kernel_rfl) rfl (by simp) (by simp) ?_
 simp[go_sem,Tryz.f158,zO]
 refine zq (fun h=>?_) (fun h=>?_)
 ·simp[go_sem]
  exact zn (.p (.int .i64 (-1))) rfl (by simp[go_sem,zg,leA,leT]) ⟨rfl,by simp[Q2,h]⟩
 ·simp[go_sem]
  refine zq (fun h2=>?_) (fun h2=>?_)
  ·simp[go_sem]
   exact zn (.p (.int .i64 1)) rfl (by simp[go_sem,zg,leA,leT]) ⟨rfl,by simp[Q2,h,h2]⟩
  ·simp[go_sem]
   exact zn (.p (.int .i64 0)) rfl (by simp[go_sem,zg,leA,leT]) ⟨rfl,by simp[Q2,h,h2]⟩
theorem qw.lt:∀{l:List Span},qw l→∀i j (hi:i<l.length) (hj:j<l.length),i<j→l[i].t<l[j].f
 | [],_,i,j,hi,_,_=>by simp at hi
 |s::l,h,i,j,hi,hj,hij=>by
  cases j with
  |zero=>omega
  |succ j=>
   cases i with
   |zero=>exact h.2.1 _ (List.getElem_mem _)
   |succ i=>exact qw.lt h.2.2 i j _ _ (by omega)
theorem qw.le:∀{l:List Span},qw l→∀s∈l,s.f≤s.t
 | [],_,s,hs=>by simp at hs
 |a::l,h,s,hs=>by
  rcases List.mem_cons.1 hs with rfl|hs
  ·exact h.1
  ·exact qw.le h.2.2 s hs
theorem zgl {x:Int}(h1:0≤x)(h2:x≤9223372036854775807):IntKind.u64.wrap x=x:=by
 simp[IntKind.wrap,IntKind.signed,IntKind.bits];omega
def zjl(l:List Span)(c:Int)(x:AV):Prop:=(∃i:Nat,∃hi:i<l.length,x=.tup [.p (.int .i64 i),.p (.bool true)]∧l[i].f≤c∧c≤l[i].t)∨∃i:Nat,x=.tup [.p (.int .i64 i),.p (.bool false)]∧∀s∈l,¬(s.f≤c∧c≤s.t)
theorem zdQ [Gi](l:List Span)(c:Int)(hR:qw l)(hn:l.length<2^31):CR Tryz.prog 157 [] [.p (zA l),.p (.int .i64 c),.p Vr] [] (fun x rs=>rs=[]∧zjl l c x):=by
 refine zH mixed 12 [] Tryz.func157 rfl (by kernel_rfl) rfl (by simp) (by simp) ?_
 simp[go_sem,Tryz.f157,zA]
 refine zF (fun r:Nat×Nat=>r.1≤r.2∧r.2≤l.length∧(∀i (hi:i<l.length),i<r.1→l[i].t<c)∧∀i (hi:i<l.length),r.2≤i→c≤l[i].t) (fun r=>[(9,.p (.int .i64 (r.1:Nat))),(10,.p (.int .i64 (r.2:Nat)))]) (fun _=>[]) (fun r=>r.2-r.1) (0,l.length) ⟨by simp,by simp,by simp,fun i hi h=>absurd h (by simpa using hi)⟩ (by simp[go_sem,LeS,leV,leR,leA]) (fun r hr=>?_)
 obtain⟨i,j⟩:=r
 obtain⟨h1,h2,h3,h4⟩:=hr
 simp only at h1 h2 h3 h4
 simp (maxSteps:=1000000) [go_sem]
 refine zq (fun h=>?_) (fun h=>?_)
 ·obtain⟨s,hs⟩:∃s,s=i+j:=⟨_,rfl⟩
  obtain⟨m,hm⟩:∃m,m=s/2:=⟨_,rfl⟩
  have w1:IntKind.i64.wrap ((i:Int)+j)=(s:Int):=by rw[wrap64 (by omega) (by omega)];omega
  have w2:IntKind.u64.wrap (s:Int)=(s:Int):=zgl (by omega) (by omega)
  have w3:(s:Int).fdiv 2=(m:Int):=by rw[Int.fdiv_eq_ediv_of_nonneg _ (by omega)];omega
  have w4:IntKind.i64.wrap (m:Int)=(m:Int):=wrap64 (by omega) (by omega)
  have w5:IntKind.i64.wrap ((m:Int)+1)=((m+1:Nat):Int):=by rw[wrap64 (by omega) (by omega)];rfl
  have hml:m<l.length:=by omega
  have em:=zu zO l m hml
  obtain⟨q,hq⟩:∃q,l[m]=q:=⟨_,rfl⟩
  rw[hq]at em
  simp (maxSteps:=1000000) [go_sem,w1,w2,w3,w4,em,zO,hml,Vr]
  refine⟨⟨rfl,by simp[Tryz.f158]⟩,zh [] (KT q c) (by simp[go_sem]) ⟨by simp[go_sem],by simp[go_sem,zO]⟩ (by simp[go_sem]) ?_⟩
  rintro _ rs ⟨rfl,rfl⟩
  simp (maxSteps:=1000000) [go_sem]
  refine zq (fun hb=>?_) (fun hb=>?_)
  ·have hb':q.t<c:=by
    unfold Q2 at hb
    split at hb
    ·assumption
    ·split at hb<;>omega
   simp (maxSteps:=1000000) [go_sem,w5]
   refine zj (m+1,j) ⟨by show m+1≤j;omega,h2,fun k hk hkm=>?_,h4⟩ (by simp[go_sem,LeS,leV,leR,leA]) (by show j- (m+1)<j-i;omega)
   by_cases e:k=m
   ·subst e;rw[hq];exact hb'
   ·have:=hR.lt k m hk hml (by simp at hkm;omega)
    have:=hR.le l[m] (List.getElem_mem _)
    rw[hq]at*
    omega
  ·have hb':c≤q.t:=by
    unfold Q2 at hb
    split at hb
    ·omega
    ·omega
   simp (maxSteps:=1000000) [go_sem]
   refine zj (i,m) ⟨by show i≤m;omega,by show m≤l.length;omega,h3,fun k hk hkm=>?_⟩ (by simp[go_sem,LeS,leV,leR,leA]) (by show m-i<j-i;omega)
   by_cases e:k=m
   ·subst e;rw[hq];exact hb'
   ·have:=hR.lt m k hml hk (by simp at hkm;omega)
    have:=hR.le l[k] (List.getElem_mem _)
    rw[hq]at*
    omega
 ·obtain rfl:i=j:=by omega
  by_cases hil:i<l.length
  ·have em:=zu zO l i hil
   have hc:=h4 i hil (Nat.le_refl _)
   have hrest:∀k,(hk:k<l.length)→k≠i→¬(l[k].f≤c∧c≤l[k].t):=fun k hk hki h=>by
    by_cases hk2:k<i
    ·have:=h3 k hk hk2
     omega
    ·have:=hR.lt i k hil hk (by omega)
     omega
   obtain⟨q,hq⟩:∃q,l[i]=q:=⟨_,rfl⟩
   rw[hq]at em hc
   simp (maxSteps:=1000000) [go_sem,em,zO,hil,Vr]
   refine⟨⟨rfl,by simp[Tryz.f158]⟩,zh [] (KT q c) (by simp[go_sem]) ⟨by simp[go_sem],by simp[go_sem,zO]⟩ (by simp[go_sem]) ?_⟩
   rintro _ rs ⟨rfl,rfl⟩
   simp (maxSteps:=1000000) [go_sem]
   by_cases hf:q.f≤c
   ·have hb:Q2 q c=0:=by unfold Q2;rw[if_neg (by omega),if_neg (by omega)]
    simp (maxSteps:=1000000) [go_sem,hb]
    exact zn (.tup [.p (.int .i64 i),.p (.bool true)]) rfl (by simp[go_sem,zg,leA,leT,leP]) ⟨rfl,.inl ⟨i,hil,rfl,by rw[hq];exact⟨hf,hc⟩⟩⟩
   ·have hb:Q2 q c≠0:=by unfold Q2;rw[if_neg (by omega),if_pos (by omega)];decide
    simp (maxSteps:=1000000) [go_sem,hb]
    refine zn (.tup [.p (.int .i64 i),.p (.bool false)]) rfl (by simp[go_sem,zg,leA,leT,leP]) ⟨rfl,.inr ⟨i,rfl,fun s hs hh=>?_⟩⟩
    obtain⟨k,hk,rfl⟩:=List.mem_iff_getElem.1 hs
    by_cases hki:k=i
    ·subst hki;rw[hq]at hh;exact hf hh.1
    ·exact hrest k hk hki hh
  ·simp (maxSteps:=1000000) [go_sem,hil]
   refine zn (.tup [.p (.int .i64 i),.p (.bool false)]) rfl (by simp[go_sem,zg,leA,leT,leP]) ⟨rfl,.inr ⟨i,rfl,fun s hs hh=>?_⟩⟩
   obtain⟨k,hk,rfl⟩:=List.mem_iff_getElem.1 hs
   have:=h3 k hk (by omega)
   omega
def atL(l:List Span)(c:Int):Option Span:=l.find? fun s=>decide (s.f≤c∧c≤s.t)
def atA(x:Option Span):AV:=match x with|some s=>.tup [.p (zO s),.p (.bool true)]|none=>.tup [.p (zO ⟨0,0,0,0⟩),.p (.bool false)]
theorem za2:∀{l:List Span},qw l→∀c i (hi:i<l.length),l[i].f≤c→c≤l[i].t→atL l c=some l[i]
 | [],_,c,i,hi,_,_=>by simp at hi
 |s::l,h,c,i,hi,h1,h2=>by
  cases i with
  |zero=>simp only[List.getElem_cons_zero]at h1 h2;simp[atL,List.find?,h1,h2]
  |succ i=>
   have hi':i<l.length:=by simpa using hi
   simp only[List.getElem_cons_succ]at h1 h2⊢
   have h3:=h.2.1 l[i] (List.getElem_mem _)
   have:=za2 h.2.2 c i hi' h1 h2
   unfold atL at this⊢
   rw[List.find?_cons_of_neg (by simp;omega),this]
theorem zbW [Gi](l:List Span)(c:Int)(hc: -1000000000≤c∧c≤1000000000)(hR:qw l)(hn:l.length<2^31):CR Tryz.prog 104 [] [.p (zA l),.p (.int .i32 c)] [] (is (atA (atL l c))):=by
 have w1:IntKind.i64.wrap c=c:=wrap64 (by omega) (by omega)
 refine zH mixed 9 [] Tryz.func104 rfl (by kernel_rfl) rfl (by simp) (by simp) ?_
 simp (maxSteps:=1000000) [go_sem,Tryz.f104,w1]
 refine⟨⟨rfl,by simp[Tryz.f157]⟩,zh [] (zdQ l c hR hn) (by simp[go_sem]) ⟨by simp[go_sem],by simp[go_sem,zA,Vr]⟩ (by simp[go_sem]) ?_⟩
 rintro _ rs ⟨rfl,⟨i,hi,rfl,h1,h2⟩|⟨i,rfl,h1⟩⟩
 ·have em:=zu zO l i hi
  rw[za2 hR c i hi h1 h2]
  generalize l[i]=q at em
  simp (maxSteps:=1000000) [go_sem,em,zO,hi,zA]
  exact zn (.tup [.p (zO q),.p (.bool true)]) rfl (by simp[go_sem,zg,leA,leT,leP,zO]) ⟨rfl,rfl⟩
 ·have e:atL l c=none:=by
   unfold atL
   rw[List.find?_eq_none]
   intro s hs
   simpa using h1 s hs
  rw[e]
  simp (maxSteps:=1000000) [go_sem]
  exact zn (.tup [.p (zO ⟨0,0,0,0⟩),.p (.bool false)]) rfl (by simp[go_sem,zg,leA,leT,leP,zO]) ⟨rfl,rfl⟩
def Zy(a e:Int):List Span→Int
 | []=>e
 |s::l=>Zy a (if a<s.f∧s.f≤e then s.f-1 else e) l
theorem Ku(a e:Int)(l m:List Span):Zy a e (l++m)=Zy a (Zy a e l) m:=by
 induction l generalizing e with
 |nil=>rfl
 |cons s l ih=>simp only[List.cons_append,Zy];exact ih _
theorem XX(a e:Int)(l:List Span):Zy a e l≤e:=by
 induction l generalizing e with
 |nil=>exact Int.le_refl _
 |cons s l ih=>simp only[Zy];refine Int.le_trans (ih _) ?_;split<;>omega
theorem zaH(a e:Int)(l:List Span):∀s∈l,¬(a<s.f∧s.f≤Zy a e l):=by
 induction l generalizing e with
 |nil=>simp
 |cons x l ih=>
  intro s hs h
  rcases List.mem_cons.1 hs with rfl|hs
  ·simp only[Zy]at h
   have:=XX a (if a<s.f∧s.f≤e then s.f-1 else e) l
   generalize Zy a (if a<s.f∧s.f≤e then s.f-1 else e) l=u at this h
   split at this<;>omega
  ·exact ih _ s hs h
def zay(Ls:List (List Span)):PV:=.agg (Ls.map zA)
theorem zhd [Gi](Ls:List (List Span))(a e:Int)(hn:Ls.length=4)(hl:∀l∈Ls,l.length<256)(hb:∀l∈Ls,∀s∈l, -1000000000≤s.f∧s.f≤1000000000):
  CR Tryz.prog 105 [] [.p (.int .i64 a),.p (.int .i64 e),.p (zay Ls)] [] (is (.p (.int .i64 (Zy a e Ls.flatten)))):=by
 refine zH mixed 11 [11,12,15,16,17] Tryz.func105 rfl (by kernel_rfl) rfl (by simp) (by simp) ?_
 obtain⟨M,hM⟩:∃M,M=Ls.map zA:=⟨_,rfl⟩
 have hMl:M.length=4:=by rw[hM];simp[hn]
 simp only[zay,←hM]
 simp (maxSteps:=1000000) [go_sem,Tryz.f105,hMl,ZO hMl,zcU]
 refine zF (fun r:Nat=>r≤4) (fun r=>[(12,.p (.int .i64 (r:Nat))),(1,.p (.int .i64 (Zy a e (Ls.take r).flatten)))]) (fun _=>[]) (fun r=>4-r) 0 (by omega) (by simp[go_sem,LeS,leV,leR,leA,Zy,zl]) (fun i hi=>?_)
 simp (maxSteps:=1000000) [go_sem]
 refine zq (fun h=>?_) (fun h=>?_)
 ·have hil:i<Ls.length:=by omega
  have w1:IntKind.i64.wrap ((i:Int)+1)=((i+1:Nat):Int):=by rw[wrap64 (by omega) (by omega)];rfl
  have htake:(Ls.take (i+1)).flatten=(Ls.take i).flatten++Ls[i]:=by
   rw[List.take_add_one,List.getElem?_eq_getElem hil,List.flatten_append];exact congrArg _ (by simp)
  have hm:Ls[i]∈Ls:=List.getElem_mem _
  have hl':=hl _ hm
  have hb':=hb _ hm
  have em:M[i]?=some (zA Ls[i]):=by rw[hM,List.getElem?_map,List.getElem?_eq_getElem hil];rfl
  generalize Ls[i]=l at htake hm em hl' hb'
  simp (maxSteps:=1000000) [go_sem,em,zA]
  obtain⟨E0,hE0⟩:∃E0,E0=Zy a e (Ls.take i).flatten:=⟨_,rfl⟩
  refine⟨by omega,zF (fun j:Nat=>j≤l.length) (fun j=>[(17,.p (.int .i64 (j:Nat))),(1,.p (.int .i64 (Zy a E0 (l.take j))))]) (fun _=>[]) (fun j=>l.length-j) 0 (by omega) (by simp[go_sem,LeS,leV,leR,leA,Zy,zl,hE0]) (fun j hj=>?_)⟩
  simp (maxSteps:=1000000) [go_sem]
  refine zq (fun h2=>?_) (fun h2=>?_)
  ·have hjl:j<l.length:=by omega
   have em2:=zu zO l j hjl
   have w2:IntKind.i64.wrap ((j:Int)+1)=((j+1:Nat):Int):=by rw[wrap64 (by omega) (by omega)];rfl
   have hq:=hb' l[j] (List.getElem_mem _)
   have htk:Zy a E0 (l.take (j+1))=if a<l[j].f∧l[j].f≤Zy a E0 (l.take j)then l[j].f-1 else Zy a E0 (l.take j):=by
    rw[List.take_add_one,List.getElem?_eq_getElem hjl,Ku];rfl
   generalize l[j]=q at em2 hq htk
   have w3:IntKind.i64.wrap (q.f-1)=q.f-1:=wrap64 (by omega) (by omega)
   generalize Zy a E0 (l.take j)=E1 at htk
   by_cases h3:a<q.f
   ·by_cases h4:q.f≤E1
    ·rw[if_pos ⟨h3,h4⟩]at htk
     simp (maxSteps:=1000000) [go_sem,em2,hjl,zO,h3,h4,w2,w3]
     exact zj (j+1) (by omega) (by simp[go_sem,LeS,leV,leR,leA,zl,htk]) (by omega)
    ·rw[if_neg (fun h=>h4 h.2)]at htk
     simp (maxSteps:=1000000) [go_sem,em2,hjl,zO,h3,h4,w2]
     exact zj (j+1) (by omega) (by simp[go_sem,LeS,leV,leR,leA,zl,htk]) (by omega)
   ·rw[if_neg (fun h=>h3 h.1)]at htk
    simp (maxSteps:=1000000) [go_sem,em2,hjl,zO,h3,w2]
    exact zj (j+1) (by omega) (by simp[go_sem,LeS,leV,leR,leA,zl,htk]) (by omega)
  ·obtain rfl:j=l.length:=by omega
   have hfin:Zy a E0 (l.take l.length)=Zy a e (Ls.take (i+1)).flatten:=by rw[List.take_length,htake,Ku,hE0]
   simp (maxSteps:=1000000) [go_sem,w1]
   exact zj (i+1) (by omega) (by simp[go_sem,LeS,leV,leR,leA,zl,←hfin]) (by omega)
 ·obtain rfl:i=4:=by omega
  simp (maxSteps:=1000000) [go_sem]
  exact zn (.p (.int .i64 (Zy a e Ls.flatten))) rfl (by simp[go_sem,zg,leA,leT,←hn,List.take_length]) ⟨rfl,rfl⟩
def qz(l:List Span)(c:Int):Bool:=match atL l c with|some s=>s.a==1|none=>false
def kA(a e:Int):List (List Span)→Int
 | []=>e
 |l::Ls=>kA a (match atL l a with|some s=>min e s.t|none=>e) Ls
def ZG(A B C D:List Span)(c:Int):Flags:=⟨qz A c,qz B c,qz C c,qz D c⟩
def j7:Flags:=⟨false,false,false,false⟩
def yW(A B C D:List Span)(a:Int):Piece Flags:=⟨a,Zy a (kA a 1114111 [A,B,C,D]) [A,B,C,D].flatten,ZG A B C D a⟩
def QJ(A B C D:List Span)(at_:List Int):List (Piece Flags):=(at_.filter fun a=>ZG A B C D a !=j7).map (yW A B C D)
theorem Ju {l:List Span} {c:Int} {s:Span}(h:atL l c=some s):s∈l∧s.f≤c∧c≤s.t:=by
 unfold atL at h
 exact⟨List.mem_of_find?_eq_some h,by simpa using List.find?_some h⟩
theorem zeQ {l:List Span}(hR:qw l) {c:Int} {s:Span}(hs:s∈l)(h1:s.f≤c)(h2:c≤s.t):atL l c=some s:=by
 obtain⟨i,hi,rfl⟩:=List.mem_iff_getElem.1 hs
 exact za2 hR c i hi h1 h2
theorem Jv(a:Int):∀(Ls:List (List Span)) (e:Int),kA a e Ls≤e∧∀l∈Ls,∀s,atL l a=some s→kA a e Ls≤s.t
 | [],e=>⟨Int.le_refl _,by simp⟩
 |l::Ls,e=>by
  simp only[kA]
  cases h:atL l a with
  |none=>
   obtain⟨h1,h2⟩:=Jv a Ls e
   refine⟨h1,fun m hm s hs=>?_⟩
   rcases List.mem_cons.1 hm with rfl|hm
   ·rw[h]at hs;simp at hs
   ·exact h2 m hm s hs
  |some x=>
   obtain⟨h1,h2⟩:=Jv a Ls (min e x.t)
   refine⟨by simp only;omega,fun m hm s hs=>?_⟩
   rcases List.mem_cons.1 hm with rfl|hm
   ·rw[h]at hs;injection hs with hs;subst hs;simp only;omega
   ·exact h2 m hm s hs
theorem zco(a j:Int):∀(Ls:List (List Span)) (e:Int),j≤e→(∀l∈Ls,∀s,atL l a=some s→j≤s.t)→j≤kA a e Ls
 | [],e,h,_=>h
 |l::Ls,e,h,hs=>by
  simp only[kA]
  apply zco a j Ls
  ·cases h':atL l a with
   |none=>exact h
   |some x=>have:=hs l (by simp) x h';simp only;omega
  ·exact fun m hm s h=>hs m (by simp[hm]) s h
theorem zdV(a j:Int)(l:List Span):∀e,j≤e→(∀s∈l,¬(a<s.f∧s.f≤j))→j≤Zy a e l:=by
 induction l with
 |nil=>exact fun e h _=>h
 |cons s l ih=>
  intro e h hs
  simp only[Zy]
  apply ih
  ·have:=hs s (by simp)
   split<;>omega
  ·exact fun x hx=>hs x (by simp[hx])
theorem uB {l:List Span}(hR:qw l) {a j:Int}(h0:a≤j)(h1:∀s,atL l a=some s→j≤s.t)(h2:∀s∈l,¬(a<s.f∧s.f≤j)):atL l j=atL l a:=by
 cases h:atL l a with
 |some s=>
  obtain⟨h3,h4,h5⟩:=Ju h
  exact zeQ hR h3 (by omega) (h1 s h)
 |none=>
  cases h':atL l j with
  |none=>rfl
  |some s=>
   obtain⟨h3,h4,h5⟩:=Ju h'
   by_cases hf:s.f≤a
   ·have:=zeQ hR h3 hf (by omega)
    rw[h]at this;simp at this
   ·exact absurd ⟨by omega,h4⟩ (h2 s h3)
theorem WH {A B C D:List Span}(hA:qw A)(hB:qw B)(hC:qw C)(hD:qw D) {a j:Int}(h0:a≤j)(h1:∀l∈[A,B,C,D],∀s,atL l a=some s→j≤s.t)(h2:∀l∈[A,B,C,D],∀s∈l,¬(a<s.f∧s.f≤j)):
  ZG A B C D j=ZG A B C D a:=by
 simp only[ZG,qz]
 rw[uB hA h0 (h1 A (by simp)) (h2 A (by simp)),uB hB h0 (h1 B (by simp)) (h2 B (by simp)),uB hC h0 (h1 C (by simp)) (h2 C (by simp)),uB hD h0 (h1 D (by simp)) (h2 D (by simp))]
theorem U8 {A B C D:List Span}(hA:qw A)(hB:qw B)(hC:qw C)(hD:qw D) {a j:Int}(h0:a≤j)(h1:j≤(yW A B C D a).t):ZG A B C D j=ZG A B C D a:=by
 simp only[yW]at h1
 have h2:=XX a (kA a 1114111 [A,B,C,D]) [A,B,C,D].flatten
 have h3:=zaH a (kA a 1114111 [A,B,C,D]) [A,B,C,D].flatten
 obtain⟨_,h4⟩:=Jv a [A,B,C,D] 1114111
 refine WH hA hB hC hD h0 (fun l hl s hs=>?_) (fun l hl s hs h=>h3 s (List.mem_flatten.2 ⟨l,hl,hs⟩) ⟨h.1,by omega⟩)
 have:=h4 l hl s hs
 omega
theorem zaq {α:Type}(zero:α)(j:Int)(v:α):∀l:List (Piece α),(∀p∈l,p.f≤j→j≤p.t→p.v=v)→((∃p∈l,p.f≤j∧j≤p.t)∨v=zero)→qv zero j l=v
 | [],_,h=>by rcases h with ⟨p,hp,_⟩|h;simp at hp;exact h.symm
 |p::l,h1,h2=>by
  simp only[qv]
  split
  ·rename_i h;exact h1 p (by simp) h.1 h.2
  ·rename_i h
   apply zaq zero j v l (fun q hq=>h1 q (by simp[hq]))
   rcases h2 with ⟨q,hq,h3⟩|h2
   ·rcases List.mem_cons.1 hq with rfl|hq
    ·exact absurd h3 h
    ·exact .inl ⟨q,hq,h3⟩
   ·exact .inr h2
theorem zfo(at_:List Int)(j:Int)(h0:∃a∈at_,a≤j):∃a∈at_,a≤j∧∀b∈at_,b≤j→b≤a:=by
 induction at_ with
 |nil=>obtain⟨a,ha,_⟩:=h0;simp at ha
 |cons x l ih=>
  by_cases hl:∃a∈l,a≤j
  ·obtain⟨a,ha,h1,h2⟩:=ih hl
   by_cases hx:x≤j∧a≤x
   ·refine⟨x,by simp,hx.1,fun b hb hbj=>?_⟩
    rcases List.mem_cons.1 hb with rfl|hb
    ·exact Int.le_refl _
    ·have:=h2 b hb hbj;omega
   ·refine⟨a,by simp[ha],h1,fun b hb hbj=>?_⟩
    rcases List.mem_cons.1 hb with rfl|hb
    ·omega
    ·exact h2 b hb hbj
  ·obtain⟨a,ha,h1⟩:=h0
   rcases List.mem_cons.1 ha with rfl|ha
   ·refine⟨a,by simp,h1,fun b hb hbj=>?_⟩
    rcases List.mem_cons.1 hb with rfl|hb
    ·exact Int.le_refl _
    ·exact absurd ⟨b,hb,hbj⟩ hl
   ·exact absurd ⟨a,ha,h1⟩ hl
theorem zaw {A B C D:List Span}(hA:qw A)(hB:qw B)(hC:qw C)(hD:qw D) {at_:List Int}(h0:0∈at_)(h1:∀l∈[A,B,C,D],∀s∈l,s.f∈at_∧s.t+1∈at_) {j:Int}(hj0:0≤j)(hj:j≤1114111):
  qv j7 j (QJ A B C D at_)=ZG A B C D j:=by
 refine zaq j7 j _ _ (fun p hp hf ht=>?_) ?_
 ·obtain⟨a,ha,rfl⟩:=List.mem_map.1 hp
  exact(U8 hA hB hC hD hf ht).symm
 ·obtain⟨a,ha,h2,h3⟩:=zfo at_ j ⟨0,h0,hj0⟩
  have ht:∀l∈[A,B,C,D],∀s,atL l a=some s→j≤s.t:=fun l hl s hs=>by
   obtain⟨h4,h5,h6⟩:=Ju hs
   apply Classical.byContradiction
   intro hn
   have:=h3 _ (h1 l hl s h4).2 (by omega)
   omega
  have hf:∀l∈[A,B,C,D],∀s∈l,¬(a<s.f∧s.f≤j):=fun l hl s hs h=>by
   have:=h3 _ (h1 l hl s hs).1 h.2
   omega
  have e:=WH hA hB hC hD h2 ht hf
  by_cases hz:ZG A B C D a=j7
  ·exact .inr (e.trans hz)
  ·refine .inl ⟨yW A B C D a,List.mem_map.2 ⟨a,List.mem_filter.2 ⟨ha,by simpa using hz⟩,rfl⟩,h2,?_⟩
   exact zdV a j _ _ (zco a j _ _ hj ht) (fun s hs=>by
    obtain⟨l,hl,hs⟩:=List.mem_flatten.1 hs
    exact hf l hl s hs)
def zjT:OT:=.now 0 0 (.now 1 0 (.now 2 0 (.now 3 2 (.now 4 2 (.mk [(5,.now 6 2 (.mk [(7,.mk [(8,.mk [])])])),(7,.now 5 0 (.now 6 0 (.mk [(8,.mk [])])))])))))
def QL(K:List Int):List PV:=K.map fun k=>.int .i64 k
def qe(K:List Int):List PV:=K.map fun _=>.bool true
def ju(c:Int)(K:List Int):List Int:=if c∈K then K else K++[c]
theorem Ug(c d:Int)(K:List Int):d∈ju c K↔d=c∨d∈K:=by
 unfold ju
 split
 ·rename_i h
  constructor
  ·exact .inr
  ·rintro(rfl|h')
   ·exact h
   ·exact h'
 ·simp[or_comm]
theorem Xx(K:List Int):(QL K).all (fun k=>okC [.i .i64] k.cells)=true:=by
 simp[QL,okC,PV.cells]
theorem VX(c:Int)(K:List Int):QA (.int .i64 c) (QL K) (qe K)=QL (ju c K)∧Qw (.int .i64 c) (.bool true) (QL K) (qe K)=qe (ju c K):=by
 have hn:=QP (kc:=[.i .i64]) (key:=[.int .i64 c]) rfl (ks:=QL K) (xs:=qe K) (i:=0) (Xx K) (by simp[QL,qe])
 have hc:(PV.int .i64 c).cells=[.int .i64 c]:=rfl
 by_cases h:c∈K
 ·have hs:qq [.int .i64 c] (QL K) (qe K) 0≠none:=fun e=>by
   have:=hn.1 e (.int .i64 c) (by simp[QL,h])
   exact this rfl
  obtain⟨⟨j,x⟩,hj⟩:=Option.ne_none_iff_exists'.1 hs
  obtain⟨_,k,h3,h4,h5⟩:=Zs (kc:=[.i .i64]) rfl (Xx K) hj
  have hx:x=.bool true:=by
   simp only[qe,List.getElem?_map,Option.map_eq_some_iff]at h5
   obtain⟨_,_,rfl⟩:=h5;rfl
  subst hx
  constructor
  ·simp only[QA,hc,hj,ju,if_pos h];rfl
  ·simp only[Qw,hc,hj,ju,if_pos h]
   exact jP (by simpa using h5)
 ·have hs:qq [.int .i64 c] (QL K) (qe K) 0=none:=hn.2 fun k hk e=>by
   obtain⟨d,hd,rfl⟩:=List.mem_map.1 hk
   simp only[PV.cells]at e
   injection e with e _;injection e with _ e;subst e
   exact h hd
  constructor
  ·simp only[QA,hc,hs,ju,if_neg h];simp[QL]
  ·simp only[Qw,hc,hs,ju,if_neg h];simp[qe]
theorem zdb(K:List Int):(QL K).length=K.length:=by simp[QL]
theorem KE(K:List Int):∀x:PV,x∈QL K→(match x with|.agg _=>true|_=>false)=false∧okC [.i .i64] (match x with|.agg cs=>cs|x=>[x])=true:=fun x h=>by
 obtain⟨d,_,rfl⟩:=List.mem_map.1 h;exact⟨rfl,rfl⟩
structure YP(Ls:List (List Span))(i:Nat)(l:List Span)(j:Nat)(K:List Int):Prop where
 z:0∈K
 a:∀m∈Ls.take i,∀s∈m,s.f∈K∧s.t+1∈K
 b:∀s∈l.take j,s.f∈K∧s.t+1∈K
 o:∀c∈K,c=0∨∃m∈Ls,∃s∈m,c=s.f∨c=s.t+1
 n:K.length≤1+i*512+2*j
theorem zah(c:Int)(K:List Int):(ju c K).length≤K.length+1:=by
 unfold ju;split<;>simp
theorem YP.next {Ls:List (List Span)} {i:Nat} {l:List Span} {j:Nat} {K:List Int}(h:YP Ls i l j K)(hl:l∈Ls)(hj:j<l.length):YP Ls i l (j+1) (ju (l[j].t+1) (ju l[j].f K)):=by
 have hm:∀d,d∈K→d∈ju (l[j].t+1) (ju l[j].f K):=fun d hd=>by simp[Ug,hd]
 refine⟨hm _ h.z,fun m hm' s hs=>⟨hm _ (h.a m hm' s hs).1,hm _ (h.a m hm' s hs).2⟩,fun s hs=>?_,fun c hc=>?_,?_⟩
 ·rw[List.take_add_one,List.getElem?_eq_getElem hj]at hs
  rcases List.mem_append.1 hs with hs|hs
  ·exact⟨hm _ (h.b s hs).1,hm _ (h.b s hs).2⟩
  ·simp only[Option.toList_some,List.mem_singleton]at hs
   subst hs
   simp[Ug]
 ·simp only[Ug]at hc
  rcases hc with rfl|rfl|hc
  ·exact .inr ⟨l,hl,l[j],List.getElem_mem _,.inr rfl⟩
  ·exact .inr ⟨l,hl,l[j],List.getElem_mem _,.inl rfl⟩
  ·exact h.o c hc
 ·have:=zah (l[j].t+1) (ju l[j].f K)
  have:=zah l[j].f K
  have:=h.n
  omega
theorem YP.out {Ls:List (List Span)} {i:Nat} {l:List Span} {K:List Int}(hi:i<Ls.length)(hl:Ls[i]=l)(hn:l.length<256)(h:YP Ls i l l.length K)(l':List Span):YP Ls (i+1) l' 0 K:=by
 refine⟨h.z,fun m hm s hs=>?_,by simp,h.o,by have:=h.n;omega⟩
 rw[List.take_add_one,List.getElem?_eq_getElem hi]at hm
 rcases List.mem_append.1 hm with hm|hm
 ·exact h.a m hm s hs
 ·simp only[Option.toList_some,List.mem_singleton]at hm
  subst hm
  rw[hl]at hs
  exact h.b s (by rw[List.take_length];exact hs)
@[go_sem] theorem zjD (t : Tok) (l : List Nat) (c : Option Nat) : (AV.upd (itz t l c) ∘ AV.p) = AV.p := rfl
theorem ziA [Gi](Ls:List (List Span))(hn:Ls.length<16)(hl:∀l∈Ls,l.length<256)(hb:∀l∈Ls,∀s∈l, -1000000000≤s.t∧s.t≤1000000000):
  CR Tryz.prog 103 [[0]] [.la [0] 1 0 Ls.length] [([0],(Ls.map zA).map .p)] (fun x rs=>rs=[([0],(Ls.map zA).map .p)]∧∃at_:List Int,x=.p (.sl 1 (at_.map fun k=>.int .i64 k))∧0∈at_∧(∀l∈Ls,∀s∈l,s.f∈at_∧s.t+1∈at_)∧(∀c∈at_,c=0∨∃l∈Ls,∃s∈l,c=s.f∨c=s.t+1)∧at_.length≤10000):=by
 refine zN [200008] mixed 10 [12,13,14,18,19,20,34] Tryz.func103 rfl (by kernel_rfl) rfl (by simp) (by simp) ?_
 obtain⟨u1,u2⟩:=VX 0 []
 have u3:ju 0 []=[0]:=rfl
 rw[u3]at u1 u2
 have k1:QL []=[]:=rfl
 have k2:qe []=[]:=rfl
 rw[k1,k2]at u1 u2
 obtain⟨M,hM⟩:∃M,M=Ls.map zA:=⟨_,rfl⟩
 have hMl:M.length=Ls.length:=by rw[hM];simp
 simp only[←hM]
 simp (maxSteps:=1000000) [go_sem,Tryz.f103,u1,u2]
 refine zF (fun r:Nat×List Int=>r.1≤Ls.length∧YP Ls r.1 [] 0 r.2) (fun r=>[(14,.p (.int .i64 (r.1:Nat))),(3,.om [10] (QL r.2) (qe r.2))]) (fun _=>[]) (fun r=>Ls.length-r.1) (0,[0]) ⟨Nat.zero_le _,by simp,by simp,by simp,by simp,by simp⟩ (by simp[go_sem,LeS,leV,leR,leA,zl]) (fun r hr=>?_)
 obtain⟨i,K⟩:=r
 obtain⟨h1,h2⟩:=hr
 simp only at h1 h2
 simp (maxSteps:=1000000) [go_sem]
 refine zq (fun h=>?_) (fun h=>?_)
 ·have hil:i<Ls.length:=by omega
  have em:M[i]?=some (zA Ls[i]):=by rw[hM,List.getElem?_map,List.getElem?_eq_getElem hil];rfl
  have hm:Ls[i]∈Ls:=List.getElem_mem _
  obtain⟨l,el⟩:∃l,Ls[i]=l:=⟨_,rfl⟩
  rw[el]at em hm
  have w1:IntKind.i64.wrap ((i:Int)+1)=((i+1:Nat):Int):=by rw[wrap64 (by omega) (by omega)];rfl
  simp (maxSteps:=1000000) [go_sem,em,h,zA]
  refine zF (fun r:Nat×List Int=>r.1≤l.length∧YP Ls i l r.1 r.2) (fun r=>[(20,.p (.int .i64 (r.1:Nat))),(3,.om [10] (QL r.2) (qe r.2))]) (fun _=>[]) (fun r=>l.length-r.1) (0,K) ⟨Nat.zero_le _,h2.z,h2.a,by simp,h2.o,h2.n⟩ (by simp[go_sem,LeS,leV,leR,leA,zl]) (fun r hr=>?_)
  obtain⟨j,K'⟩:=r
  obtain⟨h3,h4⟩:=hr
  simp only at h3 h4
  simp (maxSteps:=1000000) [go_sem]
  have hl':=hl l hm
  refine zq (fun hj=>?_) (fun hj=>?_)
  ·have hjl:j<l.length:=by omega
   have em2:=zu zO l j hjl
   have hx:=hb l hm l[j] (List.getElem_mem _)
   have hnext:=h4.next hm hjl
   have w2:IntKind.i64.wrap ((j:Int)+1)=((j+1:Nat):Int):=by rw[wrap64 (by omega) (by omega)];rfl
   have w3:IntKind.i64.wrap (l[j].t+1)=l[j].t+1:=wrap64 (by omega) (by omega)
   obtain⟨v1,v2⟩:=VX l[j].f K'
   obtain⟨v3,v4⟩:=VX (l[j].t+1) (ju l[j].f K')
   generalize l[j]=q at em2 hx hnext w3 v1 v2 v3 v4
   simp (maxSteps:=1000000) [go_sem,em2,hj,zO]
   refine ZC zjT (by kernel_rfl) ?_
   simp (maxSteps:=1000000) [go_sem,zjT,w2,w3,v1,v2,v3,v4]
   exact⟨KE K',KE _,zj (j+1,ju (q.t+1) (ju q.f K')) ⟨hjl,hnext⟩ (by simp[go_sem,LeS,leV,leR,leA,zl]) (by show l.length- (j+1)<l.length-j;omega)⟩
  ·have hjl:j=l.length:=by omega
   subst hjl
   simp (maxSteps:=1000000) [go_sem,w1]
   exact zj (i+1,K') ⟨hil,h4.out hil el hl' []⟩ (by simp[go_sem,LeS,leV,leR,leA,zl]) (by show Ls.length- (i+1)<Ls.length-i;omega)
 ·have hil:i=Ls.length:=by omega
  subst hil
  have hk:=h2.n
  simp (maxSteps:=1000000) [go_sem,h]
  refine zF (fun r:List Int×List Nat×Option Nat=>(∀k,(hk:k<K.length)→k∈r.2.1∨K[k]∈r.1)∧(∀c∈r.1,c∈K)∧r.1.length+r.2.1.length≤K.length∧∀k∈r.2.1,k<K.length)
   (fun r=>[(8,.os [8] 1 (r.1.map fun k=>.int .i64 k)),(34,.it [34] (QL K) (qe K) r.2.1 r.2.2)]) (fun _=>[]) (fun r=>r.2.1.length) ([],List.range K.length,none) ⟨fun k hk=>.inl (List.mem_range.2 hk),by simp,by simp,fun k hk=>List.mem_range.1 hk⟩ (by simp[go_sem,LeS,leV,leR,leA,zdb,zl]) (fun r hr=>?_)
  obtain⟨done,left,cur⟩:=r
  obtain⟨q1,q2,q3,q4⟩:=hr
  simp only at q1 q2 q3 q4
  simp (maxSteps:=1000000) [go_sem]
  refine⟨?_,?_⟩
  ·rintro rfl
   have ha:∀c,c∈K→c∈done:=fun c hc=>by
    obtain⟨k,hk',rfl⟩:=List.mem_iff_getElem.1 hc
    rcases q1 k hk' with h|h
    ·simp at h
    ·exact h
   exact zt [[0]] (.p (.sl 1 (done.map fun k=>.int .i64 k))) ⟨rfl,by simp⟩ (by simp[go_sem,zg,leA,leT]) ⟨by simp[go_sem,hM,Function.comp_def],done,rfl,ha _ h2.z,fun l hl s hs=>⟨ha _ (h2.a l (by simpa using hl) s hs).1,ha _ (h2.a l (by simpa using hl) s hs).2⟩,fun c hc=>h2.o c (q2 c hc),by simp at q3;omega⟩
  ·intro k hk
   have hkl:=q4 k hk
   have em:elemAt (QL K) k=.int .i64 K[k]:=zu (fun k=>PV.int .i64 k) K k hkl
   have hlt:(left.filter (· !=k)).length<left.length:=List.length_filter_lt_length_iff_exists.2 ⟨k,hk,by simp⟩
   have hdl:done.length≤10000:=by omega
   simp (maxSteps:=1000000) [go_sem,em]
   refine⟨by omega,zj (done++[K[k]],left.filter (· !=k),some k) ⟨fun m hm=>?_,fun c hc=>?_,by simp;omega,fun m hm=>q4 m (List.mem_filter.1 hm).1⟩ (by simp[go_sem,LeS,leV,leR,leA,zl]) hlt⟩
   ·by_cases hmk:m=k
    ·subst hmk;exact .inr (by simp)
    ·rcases q1 m hm with h|h
     ·exact .inl (List.mem_filter.2 ⟨h,by simpa using hmk⟩)
     ·exact .inr (by simp[h])
   ·rcases List.mem_append.1 hc with h|h
    ·exact q2 c h
    ·rw[List.mem_singleton.1 h];exact List.getElem_mem _
end
end Go.Proofs.YtfjdbbpimklecaaGreatDoor
