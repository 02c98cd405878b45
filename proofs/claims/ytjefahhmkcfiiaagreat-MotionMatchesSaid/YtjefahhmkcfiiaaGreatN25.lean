/- A part of the proof of this seat's statements, by an abstract machine: what each operation does to values, and what the law's functions compute. Conditions: as each law says. -/
import Derived.Test.YtjefahhmkcfiiaaGreatN20
import Derived.Test.YtjefahhmkcfiiaaGreatN22
import Derived.Test.YtjefahhmkcfiiaaGreatN23
section
namespace Go.Proofs.YtjefahhmkcfiiaaGreat
open Go.AM
set_option maxHeartbeats 4000000
set_option maxRecDepth 10000
def znI:OT:=.now 0 0 (.now 1 0 (.now 2 0 (.now 3 2 (.now 4 2 (.mk [(5,.now 6 2 (.mk [(7,.mk [(8,.mk [])])])),(7,.now 5 0 (.now 6 0 (.mk [(8,.mk [])])))])))))
def jY(K:List Int):List PV:=K.map fun k=>.int .i64 k
def qm(K:List Int):List PV:=K.map fun _=>.bool true
def yj(c:Int)(K:List Int):List Int:=if c∈K then K else K++[c]
theorem K7(c d:Int)(K:List Int):d∈yj c K↔d=c∨d∈K:=by
 unfold yj
 split
 ·rename_i h
  constructor
  ·exact .inr
  ·rintro(rfl|h')
   ·exact h
   ·exact h'
 ·simp[or_comm]
theorem zdN(K:List Int):(jY K).all (fun k=>okC [.i .i64] k.cells)=true:=by
 simp[jY,okC,PV.cells]
theorem JZ(c:Int)(K:List Int):yf (.int .i64 c) (jY K) (qm K)=jY (yj c K)∧kX (.int .i64 c) (.bool true) (jY K) (qm K)=qm (yj c K):=by
 have hn:=jZ (kc:=[.i .i64]) (key:=[.int .i64 c]) rfl (ks:=jY K) (xs:=qm K) (i:=0) (zdN K) (by simp[jY,qm])
 have hc:(PV.int .i64 c).cells=[.int .i64 c]:=rfl
 by_cases h:c∈K
 ·have hs:qM [.int .i64 c] (jY K) (qm K) 0≠none:=fun e=>by
   have:=hn.1 e (.int .i64 c) (by simp[jY,h])
   exact this rfl
  obtain⟨⟨j,x⟩,hj⟩:=Option.ne_none_iff_exists'.1 hs
  obtain⟨_,k,h3,h4,h5⟩:=Z7 (kc:=[.i .i64]) rfl (zdN K) hj
  have hx:x=.bool true:=by
   simp only[qm,List.getElem?_map,Option.map_eq_some_iff]at h5
   obtain⟨_,_,rfl⟩:=h5;rfl
  subst hx
  constructor
  ·simp only[yf,hc,hj,yj,if_pos h];rfl
  ·simp only[kX,hc,hj,yj,if_pos h]
   exact yT (by simpa using h5)
 ·have hs:qM [.int .i64 c] (jY K) (qm K) 0=none:=hn.2 fun k hk e=>by
   obtain⟨d,hd,rfl⟩:=List.mem_map.1 hk
   simp only[PV.cells]at e
   injection e with e _;injection e with _ e;subst e
   exact h hd
  constructor
  ·simp only[yf,hc,hs,yj,if_neg h];simp[jY]
  ·simp only[kX,hc,hs,yj,if_neg h];simp[qm]
theorem zgL(K:List Int):(jY K).length=K.length:=by simp[jY]
theorem XL(K:List Int):∀x:PV,x∈jY K→(match x with|.agg _=>true|_=>false)=false∧okC [.i .i64] (match x with|.agg cs=>cs|x=>[x])=true:=fun x h=>by
 obtain⟨d,_,rfl⟩:=List.mem_map.1 h;exact⟨rfl,rfl⟩
structure zdF(Ls:List (List Span))(i:Nat)(l:List Span)(j:Nat)(K:List Int):Prop where
 z:0∈K
 a:∀m∈Ls.take i,∀s∈m,s.f∈K∧s.t+1∈K
 b:∀s∈l.take j,s.f∈K∧s.t+1∈K
 o:∀c∈K,c=0∨∃m∈Ls,∃s∈m,c=s.f∨c=s.t+1
 n:K.length≤1+i*512+2*j
theorem zdO(c:Int)(K:List Int):(yj c K).length≤K.length+1:=by
 unfold yj;split<;>simp
theorem zdF.next {Ls:List (List Span)} {i:Nat} {l:List Span} {j:Nat} {K:List Int}(h:zdF Ls i l j K)(hl:l∈Ls)(hj:j<l.length):zdF Ls i l (j+1) (yj (l[j].t+1) (yj l[j].f K)):=by
 have hm:∀d,d∈K→d∈yj (l[j].t+1) (yj l[j].f K):=fun d hd=>by simp[K7,hd]
 refine⟨hm _ h.z,fun m hm' s hs=>⟨hm _ (h.a m hm' s hs).1,hm _ (h.a m hm' s hs).2⟩,fun s hs=>?_,fun c hc=>?_,?_⟩
 ·rw[List.take_add_one,List.getElem?_eq_getElem hj]at hs
  rcases List.mem_append.1 hs with hs|hs
  ·exact⟨hm _ (h.b s hs).1,hm _ (h.b s hs).2⟩
  ·simp only[Option.toList_some,List.mem_singleton]at hs
   subst hs
   simp[K7]
 ·simp only[K7]at hc
  rcases hc with rfl|rfl|hc
  ·exact .inr ⟨l,hl,l[j],List.getElem_mem _,.inr rfl⟩
  ·exact .inr ⟨l,hl,l[j],List.getElem_mem _,.inl rfl⟩
  ·exact h.o c hc
 ·have:=zdO (l[j].t+1) (yj l[j].f K)
  have:=zdO l[j].f K
  have:=h.n
  omega
theorem zdF.out {Ls:List (List Span)} {i:Nat} {l:List Span} {K:List Int}(hi:i<Ls.length)(hl:Ls[i]=l)(hn:l.length<256)(h:zdF Ls i l l.length K)(l':List Span):zdF Ls (i+1) l' 0 K:=by
 refine⟨h.z,fun m hm s hs=>?_,by simp,h.o,by have:=h.n;omega⟩
 rw[List.take_add_one,List.getElem?_eq_getElem hi]at hm
 rcases List.mem_append.1 hm with hm|hm
 ·exact h.a m hm s hs
 ·simp only[Option.toList_some,List.mem_singleton]at hm
  subst hm
  rw[hl]at hs
  exact h.b s (by rw[List.take_length];exact hs)
@[go_sem] theorem zm5 (t : Tok) (l : List Nat) (c : Option Nat) : (AV.upd (itz t l c) ∘ AV.p) = AV.p := rfl
theorem zmo [Gi](Ls:List (List Span))(hn:Ls.length<16)(hl:∀l∈Ls,l.length<256)(hb:∀l∈Ls,∀s∈l, -1000000000≤s.t∧s.t≤1000000000):
  CR Tryz.prog 110 [[0]] [.la [0] 1 0 Ls.length] [([0],(Ls.map zK).map .p)] (fun x rs=>rs=[([0],(Ls.map zK).map .p)]∧∃at_:List Int,x=.p (.sl 1 (at_.map fun k=>.int .i64 k))∧0∈at_∧(∀l∈Ls,∀s∈l,s.f∈at_∧s.t+1∈at_)∧(∀c∈at_,c=0∨∃l∈Ls,∃s∈l,c=s.f∨c=s.t+1)∧at_.length≤10000):=by
 refine zM [200008] mixed 10 [12,13,14,18,19,20,34] Tryz.func110 rfl (by kernel_rfl) rfl (by simp) (by simp) ?_
 obtain⟨u1,u2⟩:=JZ 0 []
 have u3:yj 0 []=[0]:=rfl
 rw[u3]at u1 u2
 have k1:jY []=[]:=rfl
 have k2:qm []=[]:=rfl
 rw[k1,k2]at u1 u2
 obtain⟨M,hM⟩:∃M,M=Ls.map zK:=⟨_,rfl⟩
 have hMl:M.length=Ls.length:=by rw[hM];simp
 simp only[←hM]
 simp (maxSteps:=1000000) [go_sem,Tryz.f110,u1,u2]
 refine zi (fun r:Nat×List Int=>r.1≤Ls.length∧zdF Ls r.1 [] 0 r.2) (fun r=>[(14,.p (.int .i64 (r.1:Nat))),(3,.om [10] (jY r.2) (qm r.2))]) (fun _=>[]) (fun r=>Ls.length-r.1) (0,[0]) ⟨Nat.zero_le _,by simp,by simp,by simp,by simp,by simp⟩ (by simp[go_sem,LeS,leV,leR,leA,zj]) (fun r hr=>?_)
 obtain⟨i,K⟩:=r
 obtain⟨h1,h2⟩:=hr
 simp only at h1 h2
 simp (maxSteps:=1000000) [go_sem]
 refine zx (fun h=>?_) (fun h=>?_)
 ·have hil:i<Ls.length:=by omega
  have em:M[i]?=some (zK Ls[i]):=by rw[hM,List.getElem?_map,List.getElem?_eq_getElem hil];rfl
  have hm:Ls[i]∈Ls:=List.getElem_mem _
  obtain⟨l,el⟩:∃l,Ls[i]=l:=⟨_,rfl⟩
  rw[el]at em hm
  have w1:IntKind.i64.wrap ((i:Int)+1)=((i+1:Nat):Int):=by rw[wrap64 (by omega) (by omega)];rfl
  simp (maxSteps:=1000000) [go_sem,em,h,zK]
  refine zi (fun r:Nat×List Int=>r.1≤l.length∧zdF Ls i l r.1 r.2) (fun r=>[(20,.p (.int .i64 (r.1:Nat))),(3,.om [10] (jY r.2) (qm r.2))]) (fun _=>[]) (fun r=>l.length-r.1) (0,K) ⟨Nat.zero_le _,h2.z,h2.a,by simp,h2.o,h2.n⟩ (by simp[go_sem,LeS,leV,leR,leA,zj]) (fun r hr=>?_)
  obtain⟨j,K'⟩:=r
  obtain⟨h3,h4⟩:=hr
  simp only at h3 h4
  simp (maxSteps:=1000000) [go_sem]
  have hl':=hl l hm
  refine zx (fun hj=>?_) (fun hj=>?_)
  ·have hjl:j<l.length:=by omega
   have em2:=zq z8 l j hjl
   have hx:=hb l hm l[j] (List.getElem_mem _)
   have hnext:=h4.next hm hjl
   have w2:IntKind.i64.wrap ((j:Int)+1)=((j+1:Nat):Int):=by rw[wrap64 (by omega) (by omega)];rfl
   have w3:IntKind.i64.wrap (l[j].t+1)=l[j].t+1:=wrap64 (by omega) (by omega)
   obtain⟨v1,v2⟩:=JZ l[j].f K'
   obtain⟨v3,v4⟩:=JZ (l[j].t+1) (yj l[j].f K')
   generalize l[j]=q at em2 hx hnext w3 v1 v2 v3 v4
   simp (maxSteps:=1000000) [go_sem,em2,hj,z8]
   refine Zg znI (by kernel_rfl) ?_
   simp (maxSteps:=1000000) [go_sem,znI,w2,w3,v1,v2,v3,v4]
   exact⟨XL K',XL _,zc (j+1,yj (q.t+1) (yj q.f K')) ⟨hjl,hnext⟩ (by simp[go_sem,LeS,leV,leR,leA,zj]) (by show l.length- (j+1)<l.length-j;omega)⟩
  ·have hjl:j=l.length:=by omega
   subst hjl
   simp (maxSteps:=1000000) [go_sem,w1]
   exact zc (i+1,K') ⟨hil,h4.out hil el hl' []⟩ (by simp[go_sem,LeS,leV,leR,leA,zj]) (by show Ls.length- (i+1)<Ls.length-i;omega)
 ·have hil:i=Ls.length:=by omega
  subst hil
  have hk:=h2.n
  simp (maxSteps:=1000000) [go_sem,h]
  refine zi (fun r:List Int×List Nat×Option Nat=>(∀k,(hk:k<K.length)→k∈r.2.1∨K[k]∈r.1)∧(∀c∈r.1,c∈K)∧r.1.length+r.2.1.length≤K.length∧∀k∈r.2.1,k<K.length)
   (fun r=>[(8,.os [8] 1 (r.1.map fun k=>.int .i64 k)),(34,.it [34] (jY K) (qm K) r.2.1 r.2.2)]) (fun _=>[]) (fun r=>r.2.1.length) ([],List.range K.length,none) ⟨fun k hk=>.inl (List.mem_range.2 hk),by simp,by simp,fun k hk=>List.mem_range.1 hk⟩ (by simp[go_sem,LeS,leV,leR,leA,zgL,zj]) (fun r hr=>?_)
  obtain⟨done,left,cur⟩:=r
  obtain⟨q1,q2,q3,q4⟩:=hr
  simp only at q1 q2 q3 q4
  simp (maxSteps:=1000000) [go_sem]
  refine⟨?_,?_⟩
  ·rintro rfl
   have ha:∀c,c∈K→c∈done:=fun c hc=>by
    obtain⟨k,hk',rfl⟩:=List.mem_iff_getElem.1 hc
    rcases q1 k hk' with h|h
    ·simp at h
    ·exact h
   exact zl [[0]] (.p (.sl 1 (done.map fun k=>.int .i64 k))) ⟨rfl,by simp⟩ (by simp[go_sem,zf,leA,leT]) ⟨by simp[go_sem,hM,Function.comp_def],done,rfl,ha _ h2.z,fun l hl s hs=>⟨ha _ (h2.a l (by simpa using hl) s hs).1,ha _ (h2.a l (by simpa using hl) s hs).2⟩,fun c hc=>h2.o c (q2 c hc),by simp at q3;omega⟩
  ·intro k hk
   have hkl:=q4 k hk
   have em:elemAt (jY K) k=.int .i64 K[k]:=zq (fun k=>PV.int .i64 k) K k hkl
   have hlt:(left.filter (· !=k)).length<left.length:=List.length_filter_lt_length_iff_exists.2 ⟨k,hk,by simp⟩
   have hdl:done.length≤10000:=by omega
   simp (maxSteps:=1000000) [go_sem,em]
   refine⟨by omega,zc (done++[K[k]],left.filter (· !=k),some k) ⟨fun m hm=>?_,fun c hc=>?_,by simp;omega,fun m hm=>q4 m (List.mem_filter.1 hm).1⟩ (by simp[go_sem,LeS,leV,leR,leA,zj]) hlt⟩
   ·by_cases hmk:m=k
    ·subst hmk;exact .inr (by simp)
    ·rcases q1 m hm with h|h
     ·exact .inl (List.mem_filter.2 ⟨h,by simpa using hmk⟩)
     ·exact .inr (by simp[h])
   ·rcases List.mem_append.1 hc with h|h
    ·exact q2 c h
    ·rw[List.mem_singleton.1 h];exact List.getElem_mem _
end Go.Proofs.YtjefahhmkcfiiaaGreat
end
section
namespace Go.Proofs.YtjefahhmkcfiiaaGreat
open Go.AM
set_option maxHeartbeats 4000000
set_option maxRecDepth 10000
theorem Uo [Gi](own:Bool)(size:Nat)(idx:List Nat)(blocks:List (List PV))(k2 x2:List PV)(cs:List PV)(hc:okC (qG 128 [.i .i32,.i .i32]) cs=true)(hb:∀b∈blocks,okC (qG 128 [.i .i32,.i .i32]) b=true)(hn:blocks.length<2^31):
  CR Tryz.prog 121 [[0],[1]] [.lp [0] 0,.p (.agg cs)] (zT 2 size (Zl own idx) [905] blocks k2 x2)
   (fun x rs=>(∃k:Nat,x=.p (.int .i64 k)∧blocks[k]?=some cs∧rs=zT 2 size (Zl own idx) [905] blocks k2 x2)∨
    (x=.p (.int .i64 blocks.length)∧rs=zT 2 size (Zl own idx) [1,2] (blocks++[cs]) k2 x2)):=by
 have hl:cs.length=256:=by simpa[qz]using Zy hc
 have ht:=QD hl
 have hall:(blocks.map PV.agg).all (fun k=>okC (qG 128 [.i .i32,.i .i32]) k.cells)=true:=by simpa[PV.cells]using hb
 cases own<;>
 ·refine zM [1,200005] mixed 8 [] Tryz.func121 rfl (by kernel_rfl) rfl (by simp) (by simp) ?_
  cases hf:qM cs (blocks.map PV.agg) (QZ blocks.length) 0 with
  |none=>
   simp (disch:=omega) [go_sem,Tryz.f121,zT,Zl,Zx,mapOf,jv,ht,hl,hc,hf]
   refine⟨hb,Zg U6 (by kernel_rfl) ?_⟩
   simp (disch:=omega) [go_sem,U6,ht,hl]
   have e0:(qG 128 [PV.int IntKind.i32 0,PV.int IntKind.i32 0]).length=256:=by simp[qz]
   have e1:∀x∈qG 128 [PV.int IntKind.i32 0,PV.int IntKind.i32 0],(match x with|PV.agg cs=>false|PV.opq u=>u.oneCell'|x=>true)=true:=fun x hx=>by
    obtain⟨l,hl,hx⟩:=List.mem_flatten.1 hx
    rw[List.eq_of_mem_replicate hl]at hx
    simp only[List.mem_cons,List.not_mem_nil,or_false]at hx
    rcases hx with rfl|rfl<;>rfl
   have u1:yf (PV.agg cs) (List.map PV.agg blocks) (QZ blocks.length)=List.map PV.agg blocks++[PV.agg cs]:=by simp[yf,PV.cells,hf]
   have u2:kX (PV.agg cs) (PV.int IntKind.i64 ↑blocks.length) (List.map PV.agg blocks) (QZ blocks.length)=QZ (blocks.length+1):=by rw[WG];simp only[kX,PV.cells,hf]
   refine⟨⟨e0,e1⟩,⟨e0,by omega⟩,?_⟩
   exact zl [[0],[1]] (.p (.int .i64 blocks.length)) ⟨rfl,by simp⟩ (by simp[go_sem,zf,leA,leT]) (.inr ⟨rfl,by simp[go_sem,u1,u2]⟩)
  |some r=>
   obtain⟨j,x⟩:=r
   obtain⟨_,k,h3,h4,h5⟩:=Z7 hc hall hf
   simp only[Nat.sub_zero]at h3 h5
   simp only[List.getElem?_map,Option.map_eq_some_iff]at h3
   obtain⟨b,h3,rfl⟩:=h3
   simp only[PV.cells]at h4
   subst h4
   have hx:x=.int .i64 (j:Nat):=by
    simp only[QZ,List.getElem?_map,Option.map_eq_some_iff]at h5
    obtain⟨q,hq,rfl⟩:=h5
    rw[List.getElem?_range (List.getElem?_eq_some_iff.1 h3).1]at hq
    injection hq with hq;rw[hq]
   subst hx
   simp (disch:=omega) [go_sem,Tryz.f121,zT,Zl,Zx,mapOf,jv,ht,hl,hc,hf]
   refine⟨hb,?_⟩
   exact zl [[0],[1]] (.p (.int .i64 j)) ⟨rfl,by simp⟩ (by simp[go_sem,zf,leA,leT]) (.inl ⟨j,rfl,h3,by simp[go_sem]⟩)
end Go.Proofs.YtjefahhmkcfiiaaGreat
end
section
namespace Go.Proofs.YtjefahhmkcfiiaaGreat
open Go.AM
set_option maxHeartbeats 4000000
set_option maxRecDepth 10000
theorem zhU [Gi](own:Bool)(size:Nat)(idx:List Nat)(blocks:List (List PV))(k2 x2:List PV)(a b:Int)(hb:∀b∈blocks,okC (qG 128 [.i .i32,.i .i32]) b=true)(hn:blocks.length<2^31)
  (hE:jX true [.i .i32,.i .i32] blocks k2 x2):
  CR Tryz.prog 120 [[0],[1]] [.lp [0] 0,.p (.agg [PV.int .i32 a,PV.int .i32 b])] (Yb 2 size (Zl own idx) blocks k2 x2) (zez true [.i .i32,.i .i32] 2 size (Zl own idx) blocks (.agg [PV.int .i32 a,PV.int .i32 b])):=by
 obtain⟨hE1,hE2,hE3⟩:=hE
 have hall:k2.all (fun k=>okC [.i .i32,.i .i32] k.cells)=true:=List.all_eq_true.2 fun k hk=>(zY (hE2 k hk)).2
 have ho2:own=true∨own=false:=by cases own<;>simp
 rcases ho2 with ho|ho<;>
 ·refine zM [1] mixed 10 [20] Tryz.func120 rfl (by kernel_rfl) rfl (by simp) (by simp) ?_
  cases hf:qM [PV.int .i32 a,PV.int .i32 b] k2 x2 0 with
  |none=>
   simp (disch:=omega) [go_sem,Tryz.f120,zT,Zl,ho,Zx,mapOf,jv,hf]
   refine⟨fun x hx=>by have:=zY (hE2 x hx);exact this,?_,?_⟩
   ·intro x hx
    obtain⟨l,hl,hx⟩:=List.mem_flatten.1 hx
    rw[List.eq_of_mem_replicate hl]at hx
    simp only[List.mem_cons,List.not_mem_nil,or_false]at hx
    rcases hx with rfl|rfl<;>rfl
   refine zi (fun k:Nat=>k≤128) (fun k=>[(20,.p (.int .i64 k))]) (fun k=>[([7],(ya (List.replicate k [PV.int .i32 a,PV.int .i32 b]) [PV.int .i32 0,PV.int .i32 0]).map .p)]) (fun k=>128-k) 0 (by omega) (by simp[go_sem,LeS,leV,leR,leA,leL,xU,zj]) (fun k hk=>?_)
   simp (disch:=omega) [go_sem]
   refine zx (fun h=>?_) (fun h=>?_)
   ·have w1:IntKind.i64.wrap ((k:Int)+1)=((k+1:Nat):Int):=by rw[wrap64 (by omega) (by omega)];rfl
    have hlen:(ya (List.replicate k [PV.int .i32 a,PV.int .i32 b]) [PV.int .i32 0,PV.int .i32 0]).length=256:=xY (w:=2) (by simp) rfl (by simp;omega)
    have hput:=x9 (vs:=List.replicate k [PV.int .i32 a,PV.int .i32 b]) (z:=[PV.int .i32 0,PV.int .i32 0]) (v:=[PV.int .i32 a,PV.int .i32 b]) (w:=2) (by simp) rfl rfl (by simp;omega)
    simp only[List.length_replicate,←List.replicate_succ',List.map_cons,List.map_nil,z5,List.length_cons,List.length_nil,Nat.zero_add,List.append_assoc,List.cons_append,List.nil_append]at hput
    simp (disch:=omega) [go_sem,w1,hlen,h,hput]
    exact⟨by omega,zc (k+1) (by omega) (by simp[go_sem,LeS,leV,leR,leA,leL,zj]) (by omega)⟩
   ·obtain rfl:k=128:=by omega
    have hr:(qG 128 [PV.int .i32 a,PV.int .i32 b]).length=256:=by simp[qz]
    have ht:=QD hr
    simp only[Yi]
    simp (disch:=omega) [go_sem,ht,hr]
    refine⟨⟨rfl,by simp[Tryz.f121]⟩,zb [([0],[0]),([1],[1]),([902],[902]),([903],[903]),([904],[904]),([905],[905])] (wv (Uo own size idx blocks k2 x2 (qG 128 [PV.int .i32 a,PV.int .i32 b]) (xw 128 rfl) hb hn)) (by simp[go_sem]) ⟨by simp[go_sem],by simp[go_sem]⟩ (by simp[go_sem,zT,Zl,ho]) ?_⟩
    rintro _ _ ⟨kk,bl,rfl,hk1,hbl,rfl⟩
    simp (maxSteps:=1000000) (disch:=omega) [go_sem,zT,Zl,ho]
    refine⟨fun x hx=>by have:=zY (hE2 x hx);exact this,?_⟩
    exact zl [[0],[1]] (.p (.int .i64 kk)) ⟨rfl,by simp⟩ (by simp[go_sem,zf,leA,leT]) ⟨kk,bl,_,_,rfl,hk1,hbl,(jX.grow ⟨hE1,hE2,hE3⟩ hbl).add (v:=.agg [PV.int .i32 a,PV.int .i32 b]) rfl hf hk1,by simp[go_sem,zT]⟩
  |some r=>
   obtain⟨j,x⟩:=r
   obtain⟨_,k,h3,h4,h5⟩:=Z7 (kc:=[.i .i32,.i .i32]) rfl hall hf
   simp only[Nat.sub_zero]at h3 h5
   obtain⟨n,h6,h7⟩:=hE3 j k h3
   rw[h5]at h6
   injection h6 with h6
   subst h6
   rw[h4]at h7
   simp (disch:=omega) [go_sem,Tryz.f120,zT,Zl,ho,Zx,mapOf,jv,hf]
   refine⟨fun x hx=>by have:=zY (hE2 x hx);exact this,?_⟩
   exact zl [[0],[1]] (.p (.int .i64 n)) ⟨rfl,by simp⟩ (by simp[go_sem,zf,leA,leT]) ⟨n,blocks,k2,x2,rfl,h7,.inl rfl,⟨hE1,hE2,hE3⟩,by simp[go_sem,zT]⟩
end Go.Proofs.YtjefahhmkcfiiaaGreat
end
section
namespace Go.Proofs.YtjefahhmkcfiiaaGreat
open Go.AM
set_option maxHeartbeats 8000000
set_option maxRecDepth 10000
theorem zc9 [Gi](l:List (QC Za))(size:Nat)(h0:0<size)(hs:size<2^28)(hn:l.length<2^31)(hb:∀p∈l, -1000000000≤p.f∧p.f≤1000000000):
  CR Tryz.prog 68 [] [.p (.int .i64 size),.p (.agg [PV.int .i32 0,PV.int .i32 0]),.p (xi l)] []
   (fun x rs=>∃idx blocks,x=.lp [20] 0∧kY 2 size (fun j=>[PV.int .i32 (qN ⟨0,0⟩ j l).a,PV.int .i32 (qN ⟨0,0⟩ j l).b]) idx blocks∧size≤128*idx.length∧rs=[([20],[.p (.int .i64 size),.os [20,1] 1 (idx.map fun k:Nat=>.int .i64 k),.os [20,2] 256 (blocks.map .agg)])]):=by
 refine zM [200026] mixed 16 [88] Tryz.func68 rfl (by kernel_rfl) rfl (by simp) (by simp) ?_
 have e0:¬(size:Int)<1:=by omega
 have w0:IntKind.i64.wrap ((size:Int)-1)=(size:Int)-1:=wrap64 (by omega) (by omega)
 simp (maxSteps:=1000000) (disch:=omega) [go_sem,Tryz.f68,e0,w0]
 refine⟨rfl,⟨rfl,rfl⟩,⟨rfl,by simp[Tryz.f119]⟩,?_⟩
 refine zb [] (YF l ⟨0,0⟩ 0 ((size:Int)-1) hn hb) (by simp[go_sem]) ⟨by simp[go_sem],by simp[go_sem,qg]⟩ (by simp[go_sem]) ?_
 rintro y rs ⟨rfl,rfl⟩
 obtain⟨f1,f2,f3⟩:=ZK ⟨0,0⟩ 0 l ((size:Int)-1) (by omega)
 generalize Zz ⟨0,0⟩ 0 l ((size:Int)-1)=r at f1 f2 f3
 obtain⟨v0,u0⟩:=r
 simp only at f1 f2 f3
 simp (maxSteps:=1000000) (disch:=omega) [go_sem,qg]
 refine zi (fun b:BS Za=>BI true [.i .i32,.i .i32] 2 size (fun v=>[PV.int .i32 v.a,PV.int .i32 v.b]) ⟨0,0⟩ l b) (fun b=>[(10,.p (.int .i64 b.u)),(11,.p (.int .i64 (128*(b.idx.length:Int))))]) (fun b=>([9],[.p (PV.int .i32 b.v.a),.p (PV.int .i32 b.v.b)])::we 2 size b) (fun b=>size+128-128*b.idx.length) ⟨[],[],[],[],v0,u0⟩
  ⟨.nil _ _ _,by simp,⟨rfl,by simp,by simp⟩,by simp,by simp,f1,by show u0< (size:Int);omega,fun j h1 h2=>f3 j (by simpa using h1) h2⟩ ?_ (fun b hI=>?_)
 ·simp[go_sem,LeS,leV,leR,leA,leL,we,QZ]
 obtain⟨idx,blocks,k2,x2,v,u⟩:=b
 obtain⟨i1,i2,i3,i4,i5,i6,i7,i8⟩:=hI
 simp only at i1 i2 i3 i4 i5 i6 i7 i8
 simp (maxSteps:=1000000) (disch:=omega) [go_sem,we]
 refine zx (fun hat=>?_) (fun hat=>?_)
 ·simp (maxSteps:=1000000) (disch:=omega) [go_sem]
  refine Zs (fun r:Za×Int=>0≤r.2∧r.2<size∧128*(idx.length:Int)≤r.2∧∀j,128*(idx.length:Int)≤j→j≤r.2→qN ⟨0,0⟩ j l=r.1) (fun r=>[(10,.p (.int .i64 r.2))]) (fun r=>[([9],[.p (PV.int .i32 r.1.a),.p (PV.int .i32 r.1.b)])]) (zx (fun hu=>?_) (fun hu=>?_)) ?_
  ·simp (maxSteps:=1000000) (disch:=omega) [go_sem]
   refine⟨⟨rfl,by simp[Tryz.f119]⟩,?_⟩
   refine zb [] (YF l ⟨0,0⟩ (128*(idx.length:Int)) ((size:Int)-1) hn hb) (by simp[go_sem]) ⟨by simp[go_sem],by simp[go_sem,qg,w0]⟩ (by simp[go_sem]) ?_
   rintro y rs ⟨rfl,rfl⟩
   obtain⟨g1,g2,g3⟩:=ZK ⟨0,0⟩ (128*(idx.length:Int)) l ((size:Int)-1) (by omega)
   generalize Zz ⟨0,0⟩ (128*(idx.length:Int)) l ((size:Int)-1)=r at g1 g2 g3
   obtain⟨v',u'⟩:=r
   simp only at g1 g2 g3
   simp (maxSteps:=1000000) (disch:=omega) [go_sem,qg]
   exact zU (v',u') ⟨by show 0≤u';omega,by show u'< (size:Int);omega,g1,g3⟩ (by simp[go_sem])
  ·simp (maxSteps:=1000000) (disch:=omega) [go_sem]
   exact zU (v,u) ⟨i6,i7,by show 128*(idx.length:Int)≤u;omega,i8⟩ (by simp[go_sem])
  ·clear i6 i7 i8
   rintro⟨v',u'⟩ ts ⟨j1,j2,j3,j4⟩
   simp only at j1 j2 j3 j4
   have w1:IntKind.i64.wrap (128*(idx.length:Int)+128)=128*(idx.length:Int)+128:=wrap64 (by omega) (by omega)
   have w2:IntKind.i64.wrap (min (128*(idx.length:Int)+128) (size:Int)-1)=min (128*(idx.length:Int)+128) (size:Int)-1:=wrap64 (by omega) (by omega)
   simp (maxSteps:=1000000) (disch:=omega) [go_sem,w1,w2]
   refine zx (fun hu=>?_) (fun hu=>?_)
   ·simp (maxSteps:=1000000) (disch:=omega) [go_sem]
    refine⟨⟨rfl,by simp[Tryz.f120]⟩,?_⟩
    refine zb [([0],[25]),([1],[20]),([902],[22]),([903],[23]),([904],[20,1]),([905],[20,2])] (zhU true size idx blocks k2 x2 v'.a v'.b i2 (by omega) i3) (by simp[go_sem]) ⟨by simp[go_sem],by simp[go_sem]⟩ (by simp[go_sem,zT,Zl]) ?_
    rintro _ _ ⟨kk,bl,k2',x2',rfl,hk,hbl,hE,rfl⟩
    simp (maxSteps:=1000000) (disch:=omega) [go_sem,zT,Zl]
    have hbn:bl.length≤blocks.length+1:=by rcases hbl with rfl|rfl<;>simp
    have i1':=i1.grow hbl
    have i2':∀x∈bl,okC (qG 128 [.i .i32,.i .i32]) x=true:=fun x hx=>by
     rcases hbl with rfl|rfl
     ·exact i2 x hx
     ·rcases List.mem_append.1 hx with hx|hx
      ·exact i2 x hx
      ·rw[List.mem_singleton.1 hx];exact xw 128 rfl
    refine zi (fun id:List Nat=>kY 2 size (fun j=>[PV.int .i32 (qN ⟨0,0⟩ j l).a,PV.int .i32 (qN ⟨0,0⟩ j l).b]) id bl∧idx.length≤id.length∧128*id.length<size+128∧(id.length=idx.length∨idx.length<id.length)) (fun id=>[(11,.p (.int .i64 (128*(id.length:Int))))]) (fun id=>[([20],[.p (.int .i64 size),.os [20,1] 1 (id.map fun k:Nat=>.int .i64 k),.os [20,2] 256 (bl.map .agg)])]) (fun id=>size+128-128*id.length) idx ⟨i1',Nat.le_refl _,i5,.inl rfl⟩ ?_ (fun id hid=>?_)
    ·simp[go_sem,LeS,leV,leR,leA,leL]
    obtain⟨q1,q2,q3,q4⟩:=hid
    have w3:IntKind.i64.wrap (128*(id.length:Int)+128)=128*(id.length:Int)+128:=wrap64 (by omega) (by omega)
    have w4:IntKind.i64.wrap (min (128*(id.length:Int)+128) (size:Int)-1)=min (128*(id.length:Int)+128) (size:Int)-1:=wrap64 (by omega) (by omega)
    have w5:IntKind.i64.wrap (128*(id.length:Int)-128)=128*(id.length:Int)-128:=wrap64 (by omega) (by omega)
    simp (maxSteps:=1000000) (disch:=omega) [go_sem,w3,w4]
    refine qo (fun hc=>?_) (fun hc=>?_)
    ·have hc':128*(id.length:Int)<size∧min (128*(id.length:Int)+128) (size:Int)-1≤u':=by simpa using hc
     simp (maxSteps:=1000000) (disch:=omega) [go_sem,w3]
     refine⟨by omega,zc (id++[kk]) ⟨q1.add hk (by simp[qz,PV.cells]) (fun j hj1 hj2=>?_),by simp;omega,by simp;omega,.inr (by simp;omega)⟩ ?_ (by simp;omega)⟩
     ·rw[Uc (w:=2) rfl hj1,j4 (((128*id.length+j:Nat):Int)) (by omega) (by omega)]
      rfl
     ·simp[go_sem,LeS,leV,leR,leA,leL,Int.mul_add]
    ·have hc':¬(128*(id.length:Int)<size∧min (128*(id.length:Int)+128) (size:Int)-1≤u'):=fun h=>by simp[h.1,h.2]at hc
     have hlt:idx.length<id.length:=by
      rcases q4 with q4|q4
      ·exact absurd ⟨by rw[q4];exact hat,by rw[q4];exact hu⟩ hc'
      ·exact q4
     have w6:IntKind.i64.wrap (128*(id.length:Int)-128+128)=128*(id.length:Int):=by rw[wrap64 (by omega) (by omega)];omega
     have w7:IntKind.i64.wrap (128*(id.length:Int))=128*(id.length:Int):=wrap64 (by omega) (by omega)
     simp (maxSteps:=1000000) (disch:=omega) [go_sem,w5,w7]
     exact zc ⟨id,bl,k2',x2',v',u'⟩ ⟨q1,i2',hE,by show bl.length≤id.length;omega,by show 128*id.length<size+128;omega,j1,j2,fun j h1 h2=>j4 j (by simp only at h1;omega) h2⟩ (by simp[go_sem,LeS,leV,leR,leA,leL]) (by show size+128-128*id.length<size+128-128*idx.length;omega)
   ·simp (maxSteps:=1000000) (disch:=omega) [go_sem]
    refine⟨?_,?_⟩
    ·intro x hx
     obtain⟨l,hl,hx⟩:=List.mem_flatten.1 hx
     rw[List.eq_of_mem_replicate hl]at hx
     simp only[List.mem_cons,List.not_mem_nil,or_false]at hx
     rcases hx with rfl|rfl<;>rfl
    refine zi (fun r:List (List PV)×Za×Int=>r.1.length≤128∧(∀x∈r.1,okC [.i .i32,.i .i32] x=true)∧(∀j:Nat,j<r.1.length→128*idx.length+j<size→r.1[j]?=some [PV.int .i32 (qN ⟨0,0⟩ ((128*idx.length+j:Nat):Int) l).a,PV.int .i32 (qN ⟨0,0⟩ ((128*idx.length+j:Nat):Int) l).b])∧0≤r.2.2∧r.2.2<size∧∀j:Int,128*(idx.length:Int)+r.1.length≤j→j≤r.2.2→qN ⟨0,0⟩ j l=r.2.1)
     (fun r=>[(88,.p (.int .i64 (r.1.length:Nat))),(10,.p (.int .i64 r.2.2))]) (fun r=>[([14],(ya r.1 [PV.int .i32 0,PV.int .i32 0]).map .p),([9],[.p (PV.int .i32 r.2.1.a),.p (PV.int .i32 r.2.1.b)])]) (fun r=>128-r.1.length) ([],v',u')
     ⟨by simp,by simp,by simp,j1,j2,fun j h1 h2=>j4 j (by simpa using h1) h2⟩ ?_ (fun r hr=>?_)
    ·simp[go_sem,LeS,leV,leR,leA,leL,xU,zj]
    obtain⟨vs,v2,u2⟩:=r
    obtain⟨q1,q2,q3,q4,q5,q6⟩:=hr
    simp only at q1 q2 q3 q4 q5 q6
    simp (maxSteps:=1000000) (disch:=omega) [go_sem]
    refine zx (fun hc=>?_) (fun hc=>?_)
    ·have w3:IntKind.i64.wrap (128*(idx.length:Int)+vs.length)=128*(idx.length:Int)+vs.length:=wrap64 (by omega) (by omega)
     simp (maxSteps:=1000000) (disch:=omega) [go_sem,w3]
     refine Zs (fun r:Za×Int=>0≤r.2∧r.2<size∧(128*(idx.length:Int)+vs.length<size→128*(idx.length:Int)+vs.length≤r.2)∧∀j,128*(idx.length:Int)+vs.length≤j→j≤r.2→qN ⟨0,0⟩ j l=r.1) (fun r=>[(10,.p (.int .i64 r.2))]) (fun r=>[([9],[.p (PV.int .i32 r.1.a),.p (PV.int .i32 r.1.b)])]) (qo (fun hu=>?_) (fun hu=>?_)) ?_
     ·have hu':u2<128*(idx.length:Int)+vs.length∧128*(idx.length:Int)+vs.length<size:=by simpa using hu
      simp (maxSteps:=1000000) (disch:=omega) [go_sem,w3]
      refine⟨⟨rfl,by simp[Tryz.f119]⟩,?_⟩
      refine zb [] (YF l ⟨0,0⟩ (128*(idx.length:Int)+vs.length) ((size:Int)-1) hn hb) (by simp[go_sem]) ⟨by simp[go_sem],by simp[go_sem,qg,w0]⟩ (by simp[go_sem]) ?_
      rintro y rs ⟨rfl,rfl⟩
      obtain⟨g1,g2,g3⟩:=ZK ⟨0,0⟩ (128*(idx.length:Int)+vs.length) l ((size:Int)-1) (by omega)
      generalize Zz ⟨0,0⟩ (128*(idx.length:Int)+vs.length) l ((size:Int)-1)=r at g1 g2 g3
      obtain⟨v3,u3⟩:=r
      simp only at g1 g2 g3
      simp (maxSteps:=1000000) (disch:=omega) [go_sem,qg]
      exact zU (v3,u3) ⟨by show 0≤u3;omega,by show u3< (size:Int);omega,fun _=>g1,g3⟩ (by simp[go_sem])
     ·have hu':¬(u2<128*(idx.length:Int)+vs.length∧128*(idx.length:Int)+vs.length<size):=fun h=>by simp[h.1,h.2]at hu
      simp (maxSteps:=1000000) (disch:=omega) [go_sem]
      exact zU (v2,u2) ⟨q4,q5,fun h=>by show 128*(idx.length:Int)+vs.length≤u2;omega,q6⟩ (by simp[go_sem])
     ·rintro⟨v3,u3⟩ ts2 ⟨k1,k2',k3,k4⟩
      simp only at k1 k2' k3 k4
      have hw:∀x∈vs,x.length=2:=fun x hx=>by have:=Zy (q2 x hx);simpa using this
      have hlen:(ya vs [PV.int .i32 0,PV.int .i32 0]).length=256:=xY (w:=2) hw rfl (by omega)
      have hput:=x9 (vs:=vs) (z:=[PV.int .i32 0,PV.int .i32 0]) (v:=[PV.int .i32 v3.a,PV.int .i32 v3.b]) (w:=2) hw rfl rfl (by omega)
      simp only[List.map_cons,List.map_nil,z5,List.length_cons,List.length_nil,Nat.zero_add,List.append_assoc,List.cons_append,List.nil_append]at hput
      have w4:IntKind.i64.wrap ((vs.length:Int)+1)=(vs.length:Int)+1:=wrap64 (by omega) (by omega)
      simp (maxSteps:=1000000) (disch:=omega) [go_sem,w4,hlen,hput,hc]
      refine⟨by omega,zc (vs++[[PV.int .i32 v3.a,PV.int .i32 v3.b]],v3,u3) ⟨by simp;omega,fun x hx=>?_,fun j hj1 hj2=>?_,k1,k2',fun j h1 h2=>k4 j (by simp at h1;omega) h2⟩ (by simp[go_sem,LeS,leV,leR,leA,leL,zj]) (by simp;omega)⟩
      ·rcases List.mem_append.1 hx with hx|hx
       ·exact q2 x hx
       ·rw[List.mem_singleton.1 hx];rfl
      ·by_cases hj:j<vs.length
       ·rw[List.getElem?_append_left hj];exact q3 j hj hj2
       ·have hjl:j=vs.length:=by simp at hj1;omega
        subst hjl
        rw[List.getElem?_append_right (Nat.le_refl _),Nat.sub_self]
        have hv:qN ⟨0,0⟩ (128*(idx.length:Int)+vs.length) l=v3:=k4 _ (by omega) (by have:=k3 (by omega);omega)
        rw[hv];rfl
    ·have hvl:vs.length=128:=by omega
     have hw:∀x∈vs,x.length=2:=fun x hx=>by have:=Zy (q2 x hx);simpa using this
     have hrow:ya vs [PV.int .i32 0,PV.int .i32 0]=vs.flatten:=by simp[ya,hvl,qG]
     have hok:okC (qG 128 [.i .i32,.i .i32]) vs.flatten=true:=K4 q2 hvl
     have hfl:vs.flatten.length=256:=by have:=Zy hok;simpa[qz]using this
     simp only[hrow]
     have hpart:∀j,j<128→128*idx.length+j<size→(vs.flatten.drop (j*2)).take 2=[PV.int .i32 (qN ⟨0,0⟩ ((128*idx.length+j:Nat):Int) l).a,PV.int .i32 (qN ⟨0,0⟩ ((128*idx.length+j:Nat):Int) l).b]:=fun j h1 h2=>by
      have:=jW (w:=2) (t:=[]) hw (q3 j (by omega) h2)
      simpa using this
     generalize vs.flatten=cs at hok hfl hpart
     have ht:=QD hfl
     simp (maxSteps:=1000000) (disch:=omega) [go_sem]
     refine Zg UL (by kernel_rfl) ?_
     simp (maxSteps:=1000000) (disch:=omega) [go_sem,UL,ht,hfl]
     refine⟨?_,?_⟩
     ·refine⟨⟨rfl,by simp[Tryz.f121]⟩,zb [([0],[25]),([1],[20]),([902],[22]),([903],[23]),([905],[20,2])] (wv (Uo false size idx blocks k2 x2 cs hok i2 (by omega))) (by simp[go_sem]) ⟨by simp[go_sem],by simp[go_sem]⟩ (by simp[go_sem,zT,Zl]) ?_⟩
      rintro _ _ ⟨kk,bl,rfl,hk,hbl,rfl⟩
      have hbn:bl.length≤blocks.length+1:=by rcases hbl with rfl|rfl<;>simp
      have i2':∀x∈bl,okC (qG 128 [.i .i32,.i .i32]) x=true:=fun x hx=>by
       rcases hbl with rfl|rfl
       ·exact i2 x hx
       ·rcases List.mem_append.1 hx with hx|hx
        ·exact i2 x hx
        ·rw[List.mem_singleton.1 hx];exact hok
      simp (maxSteps:=1000000) (disch:=omega) [go_sem,zT,Zl,w1]
      refine⟨by omega,zc ⟨idx++[kk],bl,k2,x2,v2,u2⟩ ⟨(i1.grow hbl).add hk (by simpa using hfl) hpart,i2',i3.grow hbl,by show bl.length≤(idx++[kk]).length;simp;omega,by show 128*(idx++[kk]).length<size+128;simp;omega,q4,q5,fun j h1 h2=>q6 j (by simp at h1;omega) h2⟩ (by simp[go_sem,LeS,leV,leR,leA,leL,Int.mul_add]) (by show size+128-128*(idx++[kk]).length<size+128-128*idx.length;simp;omega)⟩
     ·refine⟨⟨rfl,by simp[Tryz.f121]⟩,zb [([0],[25]),([1],[20]),([902],[22]),([903],[23]),([904],[20,1]),([905],[20,2])] (wv (Uo true size idx blocks k2 x2 cs hok i2 (by omega))) (by simp[go_sem]) ⟨by simp[go_sem],by simp[go_sem]⟩ (by simp[go_sem,zT,Zl]) ?_⟩
      rintro _ _ ⟨kk,bl,rfl,hk,hbl,rfl⟩
      have hbn:bl.length≤blocks.length+1:=by rcases hbl with rfl|rfl<;>simp
      have i2':∀x∈bl,okC (qG 128 [.i .i32,.i .i32]) x=true:=fun x hx=>by
       rcases hbl with rfl|rfl
       ·exact i2 x hx
       ·rcases List.mem_append.1 hx with hx|hx
        ·exact i2 x hx
        ·rw[List.mem_singleton.1 hx];exact hok
      simp (maxSteps:=1000000) (disch:=omega) [go_sem,zT,Zl,w1]
      refine⟨by omega,zc ⟨idx++[kk],bl,k2,x2,v2,u2⟩ ⟨(i1.grow hbl).add hk (by simpa using hfl) hpart,i2',i3.grow hbl,by show bl.length≤(idx++[kk]).length;simp;omega,by show 128*(idx++[kk]).length<size+128;simp;omega,q4,q5,fun j h1 h2=>q6 j (by simp at h1;omega) h2⟩ (by simp[go_sem,LeS,leV,leR,leA,leL,Int.mul_add]) (by show size+128-128*(idx++[kk]).length<size+128-128*idx.length;simp;omega)⟩
 ·simp (maxSteps:=1000000) (disch:=omega) [go_sem]
  refine zl [[20]] (.lp [20] 0) ⟨rfl,by simp⟩ (by simp[go_sem,zf,leA,leT]) ⟨rfl,idx,blocks,i1,by omega,by simp[go_sem]⟩
end Go.Proofs.YtjefahhmkcfiiaaGreat
end
