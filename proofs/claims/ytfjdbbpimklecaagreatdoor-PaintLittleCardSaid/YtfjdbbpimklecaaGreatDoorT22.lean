/- A part of this seat's proofs, by an abstract machine. Conditions: each law's. -/
import Derived.Test.YtfjdbbpimklecaaGreatDoorT21
import Derived.Test.YtfjdbbpimklecaaGreatDoorT18
set_option maxHeartbeats 4000000
set_option maxRecDepth 10000
namespace Go.Proofs.YtfjdbbpimklecaaGreatDoor
section
open Go.AM
def Za(l:List Span)(c:Int):Bool:=match atL l c with|some s=>s.a==1|none=>false
def xF(a e:Int):List (List Span)→Int
 | []=>e
 |l::Ls=>xF a (match atL l a with|some s=>min e s.t|none=>e) Ls
def Qc(A B C D:List Span)(c:Int):Flags:=⟨Za A c,Za B c,Za C c,Za D c⟩
def yT:Flags:=⟨false,false,false,false⟩
def wJ(A B C D:List Span)(a:Int):Piece Flags:=⟨a,Z3 a (xF a 1114111 [A,B,C,D]) [A,B,C,D].flatten,Qc A B C D a⟩
def jU(A B C D:List Span)(at_:List Int):List (Piece Flags):=(at_.filter fun a=>Qc A B C D a !=yT).map (wJ A B C D)
theorem zbb {l:List Span} {c:Int} {s:Span}(h:atL l c=some s):s∈l∧s.f≤c∧c≤s.t:=by
 unfold atL at h
 exact⟨List.mem_of_find?_eq_some h,by simpa using List.find?_some h⟩
theorem zkc {l:List Span}(hR:qZ l) {c:Int} {s:Span}(hs:s∈l)(h1:s.f≤c)(h2:c≤s.t):atL l c=some s:=by
 obtain⟨i,hi,rfl⟩:=List.mem_iff_getElem.1 hs
 exact ze1 hR c i hi h1 h2
theorem zbu(a:Int):∀(Ls:List (List Span)) (e:Int),xF a e Ls≤e∧∀l∈Ls,∀s,atL l a=some s→xF a e Ls≤s.t
 | [],e=>⟨Int.le_refl _,by simp⟩
 |l::Ls,e=>by
  simp only[xF]
  cases h:atL l a with
  |none=>
   obtain⟨h1,h2⟩:=zbu a Ls e
   refine⟨h1,fun m hm s hs=>?_⟩
   rcases List.mem_cons.1 hm with rfl|hm
   ·rw[h]at hs;simp at hs
   ·exact h2 m hm s hs
  |some x=>
   obtain⟨h1,h2⟩:=zbu a Ls (min e x.t)
   refine⟨by simp only;omega,fun m hm s hs=>?_⟩
   rcases List.mem_cons.1 hm with rfl|hm
   ·rw[h]at hs;injection hs with hs;subst hs;simp only;omega
   ·exact h2 m hm s hs
theorem zgP(a j:Int):∀(Ls:List (List Span)) (e:Int),j≤e→(∀l∈Ls,∀s,atL l a=some s→j≤s.t)→j≤xF a e Ls
 | [],e,h,_=>h
 |l::Ls,e,h,hs=>by
  simp only[xF]
  apply zgP a j Ls
  ·cases h':atL l a with
   |none=>exact h
   |some x=>have:=hs l (by simp) x h';simp only;omega
  ·exact fun m hm s h=>hs m (by simp[hm]) s h
theorem zhK(a j:Int)(l:List Span):∀e,j≤e→(∀s∈l,¬(a<s.f∧s.f≤j))→j≤Z3 a e l:=by
 induction l with
 |nil=>exact fun e h _=>h
 |cons s l ih=>
  intro e h hs
  simp only[Z3]
  apply ih
  ·have:=hs s (by simp)
   split<;>omega
  ·exact fun x hx=>hs x (by simp[hx])
theorem W5 {l:List Span}(hR:qZ l) {a j:Int}(h0:a≤j)(h1:∀s,atL l a=some s→j≤s.t)(h2:∀s∈l,¬(a<s.f∧s.f≤j)):atL l j=atL l a:=by
 cases h:atL l a with
 |some s=>
  obtain⟨h3,h4,h5⟩:=zbb h
  exact zkc hR h3 (by omega) (h1 s h)
 |none=>
  cases h':atL l j with
  |none=>rfl
  |some s=>
   obtain⟨h3,h4,h5⟩:=zbb h'
   by_cases hf:s.f≤a
   ·have:=zkc hR h3 hf (by omega)
    rw[h]at this;simp at this
   ·exact absurd ⟨by omega,h4⟩ (h2 s h3)
theorem Kv {A B C D:List Span}(hA:qZ A)(hB:qZ B)(hC:qZ C)(hD:qZ D) {a j:Int}(h0:a≤j)(h1:∀l∈[A,B,C,D],∀s,atL l a=some s→j≤s.t)(h2:∀l∈[A,B,C,D],∀s∈l,¬(a<s.f∧s.f≤j)):
  Qc A B C D j=Qc A B C D a:=by
 simp only[Qc,Za]
 rw[W5 hA h0 (h1 A (by simp)) (h2 A (by simp)),W5 hB h0 (h1 B (by simp)) (h2 B (by simp)),W5 hC h0 (h1 C (by simp)) (h2 C (by simp)),W5 hD h0 (h1 D (by simp)) (h2 D (by simp))]
theorem Xe {A B C D:List Span}(hA:qZ A)(hB:qZ B)(hC:qZ C)(hD:qZ D) {a j:Int}(h0:a≤j)(h1:j≤(wJ A B C D a).t):Qc A B C D j=Qc A B C D a:=by
 simp only[wJ]at h1
 have h2:=zdj a (xF a 1114111 [A,B,C,D]) [A,B,C,D].flatten
 have h3:=zfn a (xF a 1114111 [A,B,C,D]) [A,B,C,D].flatten
 obtain⟨_,h4⟩:=zbu a [A,B,C,D] 1114111
 refine Kv hA hB hC hD h0 (fun l hl s hs=>?_) (fun l hl s hs h=>h3 s (List.mem_flatten.2 ⟨l,hl,hs⟩) ⟨h.1,by omega⟩)
 have:=h4 l hl s hs
 omega
theorem zcP {α:Type}(zero:α)(j:Int)(v:α):∀l:List (Piece α),(∀p∈l,p.f≤j→j≤p.t→p.v=v)→((∃p∈l,p.f≤j∧j≤p.t)∨v=zero)→qY zero j l=v
 | [],_,h=>by rcases h with ⟨p,hp,_⟩|h;simp at hp;exact h.symm
 |p::l,h1,h2=>by
  simp only[qY]
  split
  ·rename_i h;exact h1 p (by simp) h.1 h.2
  ·rename_i h
   apply zcP zero j v l (fun q hq=>h1 q (by simp[hq]))
   rcases h2 with ⟨q,hq,h3⟩|h2
   ·rcases List.mem_cons.1 hq with rfl|hq
    ·exact absurd h3 h
    ·exact .inl ⟨q,hq,h3⟩
   ·exact .inr h2
theorem zjx(at_:List Int)(j:Int)(h0:∃a∈at_,a≤j):∃a∈at_,a≤j∧∀b∈at_,b≤j→b≤a:=by
 induction at_ with
 |nil=>obtain⟨a,ha,_⟩:=h0;simp at ha
 |cons x l ih=>
  by_cases hl:∃a∈l,a≤j
  ·obtain⟨a,ha,h1,h2⟩:=ih hl
   by_cases hx:x≤j∧a≤x
   ·refine⟨x,by simp,hx.1,fun b hb hbj=>?_⟩
    rcases List.mem_cons.1 hb with rfl|hb
    ·exact Int.le_refl _
    ·have:=h2 b hb hbj;omega
   ·refine⟨a,by simp[ha],h1,fun b hb hbj=>?_⟩
    rcases List.mem_cons.1 hb with rfl|hb
    ·omega
    ·exact h2 b hb hbj
  ·obtain⟨a,ha,h1⟩:=h0
   rcases List.mem_cons.1 ha with rfl|ha
   ·refine⟨a,by simp,h1,fun b hb hbj=>?_⟩
    rcases List.mem_cons.1 hb with rfl|hb
    ·exact Int.le_refl _
    ·exact absurd ⟨b,hb,hbj⟩ hl
   ·exact absurd ⟨a,ha,h1⟩ hl
theorem ze3 {A B C D:List Span}(hA:qZ A)(hB:qZ B)(hC:qZ C)(hD:qZ D) {at_:List Int}(h0:0∈at_)(h1:∀l∈[A,B,C,D],∀s∈l,s.f∈at_∧s.t+1∈at_) {j:Int}(hj0:0≤j)(hj:j≤1114111):
  qY yT j (jU A B C D at_)=Qc A B C D j:=by
 refine zcP yT j _ _ (fun p hp hf ht=>?_) ?_
 ·obtain⟨a,ha,rfl⟩:=List.mem_map.1 hp
  exact(Xe hA hB hC hD hf ht).symm
 ·obtain⟨a,ha,h2,h3⟩:=zjx at_ j ⟨0,h0,hj0⟩
  have ht:∀l∈[A,B,C,D],∀s,atL l a=some s→j≤s.t:=fun l hl s hs=>by
   obtain⟨h4,h5,h6⟩:=zbb hs
   apply Classical.byContradiction
   intro hn
   have:=h3 _ (h1 l hl s h4).2 (by omega)
   omega
  have hf:∀l∈[A,B,C,D],∀s∈l,¬(a<s.f∧s.f≤j):=fun l hl s hs h=>by
   have:=h3 _ (h1 l hl s hs).1 h.2
   omega
  have e:=Kv hA hB hC hD h2 ht hf
  by_cases hz:Qc A B C D a=yT
  ·exact .inr (e.trans hz)
  ·refine .inl ⟨wJ A B C D a,List.mem_map.2 ⟨a,List.mem_filter.2 ⟨ha,by simpa using hz⟩,rfl⟩,h2,?_⟩
   exact zhK a j _ _ (zgP a j _ _ hj ht) (fun s hs=>by
    obtain⟨l,hl,hs⟩:=List.mem_flatten.1 hs
    exact hf l hl s hs)
def zqE:OT:=.now 0 0 (.now 1 0 (.now 2 0 (.now 3 2 (.now 4 2 (.mk [(5,.now 6 2 (.mk [(7,.mk [(8,.mk [])])])),(7,.now 5 0 (.now 6 0 (.mk [(8,.mk [])])))])))))
def jN(K:List Int):List PV:=K.map fun k=>.int .i64 k
def qC(K:List Int):List PV:=K.map fun _=>.bool true
def kX(c:Int)(K:List Int):List Int:=if c∈K then K else K++[c]
theorem JC(c d:Int)(K:List Int):d∈kX c K↔d=c∨d∈K:=by
 unfold kX
 split
 ·rename_i h
  constructor
  ·exact .inr
  ·rintro(rfl|h')
   ·exact h
   ·exact h'
 ·simp[or_comm]
theorem zb7(K:List Int):(jN K).all (fun k=>okC [.i .i64] k.cells)=true:=by
 simp[jN,okC,PV.cells]
theorem Y6(c:Int)(K:List Int):kU (.int .i64 c) (jN K) (qC K)=jN (kX c K)∧kQ (.int .i64 c) (.bool true) (jN K) (qC K)=qC (kX c K):=by
 have hn:=jS (kc:=[.i .i64]) (key:=[.int .i64 c]) rfl (ks:=jN K) (xs:=qC K) (i:=0) (zb7 K) (by simp[jN,qC])
 have hc:(PV.int .i64 c).cells=[.int .i64 c]:=rfl
 by_cases h:c∈K
 ·have hs:Zd [.int .i64 c] (jN K) (qC K) 0≠none:=fun e=>by
   have:=hn.1 e (.int .i64 c) (by simp[jN,h])
   exact this rfl
  obtain⟨⟨j,x⟩,hj⟩:=Option.ne_none_iff_exists'.1 hs
  obtain⟨_,k,h3,h4,h5⟩:=ZS (kc:=[.i .i64]) rfl (zb7 K) hj
  have hx:x=.bool true:=by
   simp only[qC,List.getElem?_map,Option.map_eq_some_iff]at h5
   obtain⟨_,_,rfl⟩:=h5;rfl
  subst hx
  constructor
  ·simp only[kU,hc,hj,kX,if_pos h];rfl
  ·simp only[kQ,hc,hj,kX,if_pos h]
   exact yz (by simpa using h5)
 ·have hs:Zd [.int .i64 c] (jN K) (qC K) 0=none:=hn.2 fun k hk e=>by
   obtain⟨d,hd,rfl⟩:=List.mem_map.1 hk
   simp only[PV.cells]at e
   injection e with e _;injection e with _ e;subst e
   exact h hd
  constructor
  ·simp only[kU,hc,hs,kX,if_neg h];simp[jN]
  ·simp only[kQ,hc,hs,kX,if_neg h];simp[qC]
theorem zij(K:List Int):(jN K).length=K.length:=by simp[jN]
theorem zao(K:List Int):∀x:PV,x∈jN K→(match x with|.agg _=>true|_=>false)=false∧okC [.i .i64] (match x with|.agg cs=>cs|x=>[x])=true:=fun x h=>by
 obtain⟨d,_,rfl⟩:=List.mem_map.1 h;exact⟨rfl,rfl⟩
structure zd1(Ls:List (List Span))(i:Nat)(l:List Span)(j:Nat)(K:List Int):Prop where
 z:0∈K
 a:∀m∈Ls.take i,∀s∈m,s.f∈K∧s.t+1∈K
 b:∀s∈l.take j,s.f∈K∧s.t+1∈K
 o:∀c∈K,c=0∨∃m∈Ls,∃s∈m,c=s.f∨c=s.t+1
 n:K.length≤1+i*512+2*j
theorem zcn(c:Int)(K:List Int):(kX c K).length≤K.length+1:=by
 unfold kX;split<;>simp
theorem zd1.next {Ls:List (List Span)} {i:Nat} {l:List Span} {j:Nat} {K:List Int}(h:zd1 Ls i l j K)(hl:l∈Ls)(hj:j<l.length):zd1 Ls i l (j+1) (kX (l[j].t+1) (kX l[j].f K)):=by
 have hm:∀d,d∈K→d∈kX (l[j].t+1) (kX l[j].f K):=fun d hd=>by simp[JC,hd]
 refine⟨hm _ h.z,fun m hm' s hs=>⟨hm _ (h.a m hm' s hs).1,hm _ (h.a m hm' s hs).2⟩,fun s hs=>?_,fun c hc=>?_,?_⟩
 ·rw[List.take_add_one,List.getElem?_eq_getElem hj]at hs
  rcases List.mem_append.1 hs with hs|hs
  ·exact⟨hm _ (h.b s hs).1,hm _ (h.b s hs).2⟩
  ·simp only[Option.toList_some,List.mem_singleton]at hs
   subst hs
   simp[JC]
 ·simp only[JC]at hc
  rcases hc with rfl|rfl|hc
  ·exact .inr ⟨l,hl,l[j],List.getElem_mem _,.inr rfl⟩
  ·exact .inr ⟨l,hl,l[j],List.getElem_mem _,.inl rfl⟩
  ·exact h.o c hc
 ·have:=zcn (l[j].t+1) (kX l[j].f K)
  have:=zcn l[j].f K
  have:=h.n
  omega
theorem zd1.out {Ls:List (List Span)} {i:Nat} {l:List Span} {K:List Int}(hi:i<Ls.length)(hl:Ls[i]=l)(hn:l.length<256)(h:zd1 Ls i l l.length K)(l':List Span):zd1 Ls (i+1) l' 0 K:=by
 refine⟨h.z,fun m hm s hs=>?_,by simp,h.o,by have:=h.n;omega⟩
 rw[List.take_add_one,List.getElem?_eq_getElem hi]at hm
 rcases List.mem_append.1 hm with hm|hm
 ·exact h.a m hm s hs
 ·simp only[Option.toList_some,List.mem_singleton]at hm
  subst hm
  rw[hl]at hs
  exact h.b s (by rw[List.take_length];exact hs)
@[go_sem] theorem zpc (t : Tok) (l : List Nat) (c : Option Nat) : (AV.upd (itz t l c) ∘ AV.p) = AV.p := rfl
theorem zoq [Gi](Ls:List (List Span))(hn:Ls.length<16)(hl:∀l∈Ls,l.length<256)(hb:∀l∈Ls,∀s∈l, -1000000000≤s.t∧s.t≤1000000000):
  CR Tryz.prog 103 [[0]] [.la [0] 1 0 Ls.length] [([0],(Ls.map zF).map .p)] (fun x rs=>rs=[([0],(Ls.map zF).map .p)]∧∃at_:List Int,x=.p (.sl 1 (at_.map fun k=>.int .i64 k))∧0∈at_∧(∀l∈Ls,∀s∈l,s.f∈at_∧s.t+1∈at_)∧(∀c∈at_,c=0∨∃l∈Ls,∃s∈l,c=s.f∨c=s.t+1)∧at_.length≤10000):=by
 refine zK [200008] mixed 10 [12,13,14,18,19,20,34] Tryz.func103 rfl (by kernel_rfl) rfl (by simp) (by simp) ?_
 obtain⟨u1,u2⟩:=Y6 0 []
 have u3:kX 0 []=[0]:=rfl
 rw[u3]at u1 u2
 have k1:jN []=[]:=rfl
 have k2:qC []=[]:=rfl
 rw[k1,k2]at u1 u2
 obtain⟨M,hM⟩:∃M,M=Ls.map zF:=⟨_,rfl⟩
 have hMl:M.length=Ls.length:=by rw[hM];simp
 simp only[←hM]
 simp (maxSteps:=1000000) [go_sem,Tryz.f103,u1,u2]
 refine zH (fun r:Nat×List Int=>r.1≤Ls.length∧zd1 Ls r.1 [] 0 r.2) (fun r=>[(14,.p (.int .i64 (r.1:Nat))),(3,.om [10] (jN r.2) (qC r.2))]) (fun _=>[]) (fun r=>Ls.length-r.1) (0,[0]) ⟨Nat.zero_le _,by simp,by simp,by simp,by simp,by simp⟩ (by simp[go_sem,LeS,leV,leR,leA,zj]) (fun r hr=>?_)
 obtain⟨i,K⟩:=r
 obtain⟨h1,h2⟩:=hr
 simp only at h1 h2
 simp (maxSteps:=1000000) [go_sem]
 refine zh (fun h=>?_) (fun h=>?_)
 ·have hil:i<Ls.length:=by omega
  have em:M[i]?=some (zF Ls[i]):=by rw[hM,List.getElem?_map,List.getElem?_eq_getElem hil];rfl
  have hm:Ls[i]∈Ls:=List.getElem_mem _
  obtain⟨l,el⟩:∃l,Ls[i]=l:=⟨_,rfl⟩
  rw[el]at em hm
  have w1:IntKind.i64.wrap ((i:Int)+1)=((i+1:Nat):Int):=by rw[wrap64 (by omega) (by omega)];rfl
  simp (maxSteps:=1000000) [go_sem,em,h,zF]
  refine zH (fun r:Nat×List Int=>r.1≤l.length∧zd1 Ls i l r.1 r.2) (fun r=>[(20,.p (.int .i64 (r.1:Nat))),(3,.om [10] (jN r.2) (qC r.2))]) (fun _=>[]) (fun r=>l.length-r.1) (0,K) ⟨Nat.zero_le _,h2.z,h2.a,by simp,h2.o,h2.n⟩ (by simp[go_sem,LeS,leV,leR,leA,zj]) (fun r hr=>?_)
  obtain⟨j,K'⟩:=r
  obtain⟨h3,h4⟩:=hr
  simp only at h3 h4
  simp (maxSteps:=1000000) [go_sem]
  have hl':=hl l hm
  refine zh (fun hj=>?_) (fun hj=>?_)
  ·have hjl:j<l.length:=by omega
   have em2:=zp zZ l j hjl
   have hx:=hb l hm l[j] (List.getElem_mem _)
   have hnext:=h4.next hm hjl
   have w2:IntKind.i64.wrap ((j:Int)+1)=((j+1:Nat):Int):=by rw[wrap64 (by omega) (by omega)];rfl
   have w3:IntKind.i64.wrap (l[j].t+1)=l[j].t+1:=wrap64 (by omega) (by omega)
   obtain⟨v1,v2⟩:=Y6 l[j].f K'
   obtain⟨v3,v4⟩:=Y6 (l[j].t+1) (kX l[j].f K')
   generalize l[j]=q at em2 hx hnext w3 v1 v2 v3 v4
   simp (maxSteps:=1000000) [go_sem,em2,hj,zZ]
   refine QL zqE (by kernel_rfl) ?_
   simp (maxSteps:=1000000) [go_sem,zqE,w2,w3,v1,v2,v3,v4]
   exact⟨zao K',zao _,zi (j+1,kX (q.t+1) (kX q.f K')) ⟨hjl,hnext⟩ (by simp[go_sem,LeS,leV,leR,leA,zj]) (by show l.length- (j+1)<l.length-j;omega)⟩
  ·have hjl:j=l.length:=by omega
   subst hjl
   simp (maxSteps:=1000000) [go_sem,w1]
   exact zi (i+1,K') ⟨hil,h4.out hil el hl' []⟩ (by simp[go_sem,LeS,leV,leR,leA,zj]) (by show Ls.length- (i+1)<Ls.length-i;omega)
 ·have hil:i=Ls.length:=by omega
  subst hil
  have hk:=h2.n
  simp (maxSteps:=1000000) [go_sem,h]
  refine zH (fun r:List Int×List Nat×Option Nat=>(∀k,(hk:k<K.length)→k∈r.2.1∨K[k]∈r.1)∧(∀c∈r.1,c∈K)∧r.1.length+r.2.1.length≤K.length∧∀k∈r.2.1,k<K.length)
   (fun r=>[(8,.os [8] 1 (r.1.map fun k=>.int .i64 k)),(34,.it [34] (jN K) (qC K) r.2.1 r.2.2)]) (fun _=>[]) (fun r=>r.2.1.length) ([],List.range K.length,none) ⟨fun k hk=>.inl (List.mem_range.2 hk),by simp,by simp,fun k hk=>List.mem_range.1 hk⟩ (by simp[go_sem,LeS,leV,leR,leA,zij,zj]) (fun r hr=>?_)
  obtain⟨done,left,cur⟩:=r
  obtain⟨q1,q2,q3,q4⟩:=hr
  simp only at q1 q2 q3 q4
  simp (maxSteps:=1000000) [go_sem]
  refine⟨?_,?_⟩
  ·rintro rfl
   have ha:∀c,c∈K→c∈done:=fun c hc=>by
    obtain⟨k,hk',rfl⟩:=List.mem_iff_getElem.1 hc
    rcases q1 k hk' with h|h
    ·simp at h
    ·exact h
   exact zA [[0]] (.p (.sl 1 (done.map fun k=>.int .i64 k))) ⟨rfl,by simp⟩ (by simp[go_sem,zf,leA,leT]) ⟨by simp[go_sem,hM,Function.comp_def],done,rfl,ha _ h2.z,fun l hl s hs=>⟨ha _ (h2.a l (by simpa using hl) s hs).1,ha _ (h2.a l (by simpa using hl) s hs).2⟩,fun c hc=>h2.o c (q2 c hc),by simp at q3;omega⟩
  ·intro k hk
   have hkl:=q4 k hk
   have em:elemAt (jN K) k=.int .i64 K[k]:=zp (fun k=>PV.int .i64 k) K k hkl
   have hlt:(left.filter (· !=k)).length<left.length:=List.length_filter_lt_length_iff_exists.2 ⟨k,hk,by simp⟩
   have hdl:done.length≤10000:=by omega
   simp (maxSteps:=1000000) [go_sem,em]
   refine⟨by omega,zi (done++[K[k]],left.filter (· !=k),some k) ⟨fun m hm=>?_,fun c hc=>?_,by simp;omega,fun m hm=>q4 m (List.mem_filter.1 hm).1⟩ (by simp[go_sem,LeS,leV,leR,leA,zj]) hlt⟩
   ·by_cases hmk:m=k
    ·subst hmk;exact .inr (by simp)
    ·rcases q1 m hm with h|h
     ·exact .inl (List.mem_filter.2 ⟨h,by simpa using hmk⟩)
     ·exact .inr (by simp[h])
   ·rcases List.mem_append.1 hc with h|h
    ·exact q2 c h
    ·rw[List.mem_singleton.1 h];exact List.getElem_mem _
end
end Go.Proofs.YtfjdbbpimklecaaGreatDoor
