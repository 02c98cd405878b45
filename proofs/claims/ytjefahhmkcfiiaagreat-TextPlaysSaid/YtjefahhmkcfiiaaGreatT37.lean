/- A part of the proof of this seat's statements, by an abstract machine: what each operation does to values, and what the law's functions compute. Conditions: as each law says. -/
import Derived.Test.YtjefahhmkcfiiaaGreatT32
import Derived.Test.YtjefahhmkcfiiaaGreatT35
import Derived.Test.YtjefahhmkcfiiaaGreatT16
import Derived.ScopeJumps
section
namespace Go.Proofs.YtjefahhmkcfiiaaGreat
open Go.AM
set_option maxHeartbeats 4000000
set_option maxRecDepth 10000
def goL(L:List (List Int))(a n:Int):Int:=max (min ((jr L a:Int)+n) L.length) 0
theorem zpt [Gi](L:List (List Int))(a n:Int)(hL:L.length<2^31):CR Tryz.prog 28 [] [.p (zG L a),.p (.int .i64 n)] [] (is (.p (zG L (goL L a n)))):=by
 refine zm mixed 6 [] Tryz.func28 rfl (by kernel_rfl) rfl (by simp) (by simp) ?_
 have h1:=zb4 L a
 have hat:=K5 L a a
 unfold goL
 generalize jr L a=k at h1 hat
 have w1:IntKind.i64.wrap (-(k:Int))= -(k:Int):=wrap64 (by omega) (by omega)
 have w2:IntKind.i64.wrap ((L.length:Int)-k)=(L.length:Int)-k:=wrap64 (by omega) (by omega)
 have w3:IntKind.i64.wrap ((k:Int)+min (max n (-(k:Int))) ((L.length:Int)-k))=max (min ((k:Int)+n) L.length) 0:=by rw[wrap64 (by omega) (by omega)];omega
 simp (maxSteps:=1000000) [go_sem,Tryz.f28,zG,zk]
 refine⟨rfl,⟨rfl,by simp[Tryz.f77]⟩,zb [] hat (by simp[go_sem]) ⟨by simp[go_sem],by simp[go_sem,zG,zk]⟩ (by simp[go_sem]) ?_⟩
 rintro _ rs ⟨rfl,rfl⟩
 simp (maxSteps:=1000000) [go_sem,zX,w1,w2,w3]
 exact zh (.p (zG L (max (min ((k:Int)+n) L.length) 0))) rfl (by simp[go_sem,zd,leA,leT,zG,zk]) ⟨rfl,rfl⟩
end Go.Proofs.YtjefahhmkcfiiaaGreat
end
section
namespace Go.Proofs.YtjefahhmkcfiiaaGreat
open Go.AM
set_option maxHeartbeats 4000000
set_option maxRecDepth 100000
theorem atJ(i:Int):∀(l init:List Span) (o:Span),Ze (o::l)→(atL (uL init o l) i).map (·.a)=(atL (init++o::l) i).map (·.a)
 | [],_,_,_=>rfl
 |s::l,init,o,h=>by
  obtain⟨h1,h2,h3,h4,h5⟩:=h
  unfold uL
  by_cases c:o.t+1=s.f∧o.a=s.a∧o.b=s.b
  ·rw[if_pos c,atJ i l init {o with t:=s.t} ⟨show o.f≤s.t by omega,h4,h5⟩]
   unfold atL
   rw[List.find?_append,List.find?_append]
   cases init.find? (fun s=>decide (s.f≤i∧i≤s.t))with
   |some x=>rfl
   |none=>
    simp only[Option.none_or,List.find?_cons]
    by_cases q1:o.f≤i∧i≤o.t
    ·have e1:decide (o.f≤i∧i≤s.t)=true:=decide_eq_true ⟨q1.1,by omega⟩
     have e2:decide (o.f≤i∧i≤o.t)=true:=decide_eq_true q1
     rw[e1,e2];rfl
    ·have e2:decide (o.f≤i∧i≤o.t)=false:=decide_eq_false q1
     rw[e2]
     by_cases q2:s.f≤i∧i≤s.t
     ·have e1:decide (o.f≤i∧i≤s.t)=true:=decide_eq_true ⟨by omega,q2.2⟩
      have e3:decide (s.f≤i∧i≤s.t)=true:=decide_eq_true q2
      rw[e1,e3]
      exact congrArg some c.2.1
     ·have e1:decide (o.f≤i∧i≤s.t)=false:=decide_eq_false (by omega)
      have e3:decide (s.f≤i∧i≤s.t)=false:=decide_eq_false q2
      rw[e1,e3]
  ·rw[if_neg c,atJ i l (init++[o]) s ⟨h3,h4,h5⟩]
   simp
theorem zeg(l:List Span)(c:Int):qV l c=decide ((atL l c).map (·.a)=some 1):=by
 unfold qV
 cases atL l c with
 |none=>rfl
 |some s=>simp only[Option.map_some,Option.some.injEq];rfl
theorem znw(c:Int)(l:List Span)(h:Ze l):qV (Qk l) c=qV l c:=by
 cases l with
 |nil=>rfl
 |cons s l=>
  rw[zeg,zeg]
  exact congrArg (fun x=>decide (x=some 1)) (atJ c l [] s h)
theorem zhH(r:Int):(T0.flg (rn r)).l=decide (aL za 8 r=1):=by
 by_cases h:0≤r∧r≤1114111
 ·have e:(T0.flg (rn r)).l=qV (qt za 8) r:=by
   rw[Vf (by omega)];exact congrArg (qV (qt za 8)) (Int.toNat_of_nonneg h.1)
  rw[e,WA _ _ _ h]
  unfold qt
  rw[znw _ _ (jQ zpK).rise]
  unfold qV spA
  cases atL (zU za 8) r with
  |none=>rfl
  |some s=>simp only;rfl
 ·rw[wg (by omega),Kx _ _ _ h,Z3.f];rfl
attribute [local irreducible] za
def Qn(L:List (List Int))(i:Nat):Bool:=decide (aL za 8 (((L[i]?).getD [])[0]?.getD 0)=1)
structure zec(L:List (List Int)):Prop where
 n:L.length<2^31
 r:∀c∈L,∃x c',c=x::c'∧zB x
theorem yc [Gi] {c b j f p:PV}(h:QS T0 c b j f p)(ck cx sk sx:List PV)(L:List (List Int))(hL:zec L)(a:Int)(i:Nat)(hi:i<L.length):
  CR Tryz.prog 79 [] [.p (zG L a),.p (zF c b j f p ck cx sk sx),.p (.int .i64 i)] [] (is (.p (.bool (Qn L i)))):=by
 refine zm mixed 7 [] Tryz.func79 rfl (by kernel_rfl) rfl (by simp) (by simp) ?_
 have em:elemAt (qD L) i=zg L[i]:=by rw[qD,zr zg L i hi]
 obtain⟨x,c',e,hx⟩:=hL.r L[i] (List.getElem_mem hi)
 have eb:Qn L i=(T0.flg (rn x)).l:=by
  unfold Qn
  rw[List.getElem?_eq_getElem hi,zhH]
  simp[e]
 rw[e]at em
 rw[eb]
 have em2:elemAt (zu (x::c')) 0=.int .i32 x:=rfl
 have hi':(i:Int)<L.length:=by omega
 simp (maxSteps:=1000000) [go_sem,Tryz.f79,zG,zk,zX,hi',em,zg,zp,em2]
 refine⟨⟨rfl,by simp[Tryz.f131]⟩,zb [] (XS h ck cx sk sx Z3 hx) (by simp[go_sem]) ⟨by simp[go_sem],by simp[go_sem,zF]⟩ (by simp[go_sem]) ?_⟩
 rintro _ rs ⟨rfl,rfl⟩
 simp (maxSteps:=1000000) [go_sem]
 exact zh (.p (.bool (T0.flg (rn x)).l)) rfl (by simp[go_sem,zd,leA,leT]) ⟨rfl,rfl⟩
def bkW(L:List (List Int))(q:Bool):Nat→Nat
 |0=>0
 |p+1=>if Qn L p=q then bkW L q p else p+1
def fwW(L:List (List Int))(q:Bool):Nat→Nat→Nat
 |0,p=>p
 |n+1,p=>if Qn L p=q then fwW L q n (p+1)else p
def Jj(L:List (List Int))(a:Int)(back:Bool):Nat:=
 if back then bkW L true (bkW L false (jr L a))
 else fwW L true (L.length-fwW L false (L.length-jr L a) (jr L a)) (fwW L false (L.length-jr L a) (jr L a))
end Go.Proofs.YtjefahhmkcfiiaaGreat
end
section
namespace Go.Proofs.YtjefahhmkcfiiaaGreat
open Go.AM
set_option maxHeartbeats 4000000
set_option maxRecDepth 10000
attribute [local irreducible] za
theorem zhJ(rows:List Row):∀(n:Nat) (pre l:List Int),∀c∈q8 rows n pre l,∃x c',c=x::c'
 |0,_,_,c,h=>by simp[q8]at h
 |_+1,_,[],c,h=>by simp[q8]at h
 |n+1,pre,x::l,c,h=>by
  rw[q8]at h
  rcases List.mem_cons.1 h with rfl|h
  ·exact⟨_,_,rfl⟩
  ·exact zhJ rows n _ _ c h
theorem VD(l:List Int)(hn:l.length<2^31)(hr:∀x∈l,zB x):zec (zL za l)where
 n:=by have:=Zr.num l;omega
 r c hc:=by
  obtain⟨x,c',rfl⟩:=zhJ za _ _ _ c hc
  refine⟨x,c',rfl,hr x ?_⟩
  have:x∈(zL za l).flatten:=List.mem_flatten.2 ⟨_,hc,by simp⟩
  rw[Zr.flat]at this
  exact this
end Go.Proofs.YtjefahhmkcfiiaaGreat
end
section
namespace Go.Proofs.YtjefahhmkcfiiaaGreat
open Go.AM
set_option maxHeartbeats 1000000
def zm9(k:Int→Int):List Int→Prop
 | []=>True
 |x::l=>(k x=0∨∀y l',l=y::l'→k y≤k x)∧zm9 k l
def vj(k:Int→Int)(l:List Int):Prop:=zm9 k l.reverse
theorem XR {k:Int→Int} {x:Int} {l:List Int}(h:k x=0∨∀y l',l=y::l'→k y≤k x):qf k x l=x::l:=by
 cases l with
 |nil=>rfl
 |cons y l=>
  rw[qf,if_neg]
  rintro⟨h1,h2⟩
  rcases h with h|h
  ·exact h1 h
  ·have:=h y l rfl;omega
theorem Ym {k:Int→Int}(x:Int):∀l,zm9 k l→zm9 k (qf k x l)
 | [],_=>⟨.inr (by simp),trivial⟩
 |y::l,h=>by
  unfold qf
  split
  ·rename_i c
   refine⟨?_,Ym x l h.2⟩
   cases l with
   |nil=>right;intro z l' e;rw[qf]at e;injection e with e1 _;subst e1;omega
   |cons z l=>
    rcases h.1 with h1|h1
    ·exact .inl h1
    ·right
     intro u l' e
     have h2:=h1 z l rfl
     unfold qf at e
     split at e
     ·injection e with e1 _;subst e1;exact h2
     ·injection e with e1 _;subst e1;omega
  ·rename_i c
   refine⟨?_,h⟩
   by_cases c0:k x=0
   ·exact .inl c0
   ·right
    intro z l' e
    injection e with e1 _
    subst e1
    rcases Int.lt_or_le (k x) (k y)with q|q
    ·exact absurd ⟨c0,q⟩ c
    ·exact q
theorem XO(k:Int→Int)(O:List Int)(x:Int):(QK k O x).reverse=qf k x O.reverse:=by simp[QK]
theorem zkZ {k:Int→Int} {O:List Int}(h:vj k O)(x:Int):vj k (QK k O x):=by
 unfold vj
 rw[XO]
 exact Ym x _ h
theorem zbx {k:Int→Int}:∀(l O:List Int),vj k O→vj k (l.foldl (QK k) O)
 | [],_,h=>h
 |x::l,_,h=>zbx l _ (zkZ h x)
theorem zjX(k:Int→Int)(l:List Int):vj k (jK k l):=zbx l [] trivial
theorem zbr {k:Int→Int} {p:List Int} {x:Int}(h:vj k (p++[x])):QK k p x=p++[x]:=by
 unfold vj at h
 rw[List.reverse_append,List.reverse_singleton,List.singleton_append]at h
 have:=XR h.1
 unfold QK
 rw[this]
 simp
theorem vj.init {k:Int→Int} {p:List Int} {x:Int}(h:vj k (p++[x])):vj k p:=by
 unfold vj at h⊢
 rw[List.reverse_append]at h
 exact h.2
theorem Ji {k:Int→Int} {x b:Int}(h0:k b≠0)(h1:k b<k x)(hp:0≤k b):∀l,qf k b (qf k x l)=qf k x (qf k b l)
 | []=>by
  simp only[qf]
  rw[if_pos ⟨h0,h1⟩,if_neg (by omega)]
 |y::l=>by
  by_cases c:k x<k y
  ·have e1:qf k x (y::l)=y::qf k x l:=by rw[qf,if_pos ⟨by omega,c⟩]
   have e2:qf k b (y::l)=y::qf k b l:=by rw[qf,if_pos ⟨h0,by omega⟩]
   have e3:∀m,qf k b (y::m)=y::qf k b m:=fun m=>by rw[qf,if_pos ⟨h0,by omega⟩]
   have e4:∀m,qf k x (y::m)=y::qf k x m:=fun m=>by rw[qf,if_pos ⟨by omega,c⟩]
   rw[e1,e2,e3,e4,Ji h0 h1 hp l]
  ·have e1:qf k x (y::l)=x::y::l:=by rw[qf,if_neg (by omega)]
   rw[e1]
   have e2:qf k b (x::y::l)=x::qf k b (y::l):=by rw[qf,if_pos ⟨h0,h1⟩]
   rw[e2]
   have e3:∃z m,qf k b (y::l)=z::m∧k z≤k x:=by
    unfold qf
    split
    ·exact⟨y,_,rfl,by omega⟩
    ·exact⟨b,_,rfl,by omega⟩
   obtain⟨z,m,e4,e5⟩:=e3
   rw[e4,qf,if_neg (by omega)]
theorem ziG {k:Int→Int} {x b:Int}(h0:k b≠0)(h1:k b<k x)(hp:0≤k b)(O:List Int):QK k (QK k O x) b=QK k (QK k O b) x:=by
 have e:∀A y,QK k A y=(qf k y A.reverse).reverse:=fun _ _=>rfl
 rw[e (QK k O x),XO,e (QK k O b),XO,Ji h0 h1 hp]
theorem YW {k:Int→Int} {x:Int}:∀(B O:List Int),(∀b∈B,k b≠0∧k b<k x∧0≤k b)→(x::B).foldl (QK k) O=(B++[x]).foldl (QK k) O
 | [],_,_=>rfl
 |b::B,O,h=>by
  obtain⟨h0,h1,h2⟩:=h b (by simp)
  rw[List.foldl_cons,List.foldl_cons,ziG h0 h1 h2,List.cons_append,List.foldl_cons,←YW B (QK k O b) (fun c hc=>h c (List.mem_cons_of_mem _ hc)),List.foldl_cons]
structure zl4(k:Int→Int)(full:Int→List Int)(mk:Int→Int→Option Int):Prop where
 pos:∀x,0≤k x
 whole:∀x,∀y∈full x,full y=[y]
 pair:∀a b c,mk a b=some c→full c=full a++full b
 start:∀a b c,mk a b=some c→k c=0
theorem zen {k:Int→Int}:∀(n:Nat) (B:List Int),B.length=n→(∀b∈B,k b≠0)→zY k B= -1:=by
 intro n
 induction n with
 |zero=>intro B h _;rw[List.eq_nil_of_length_eq_zero h];rfl
 |succ n ih=>
  intro B h hb
  rcases List.eq_nil_or_concat B with e|⟨B',y,e⟩
  ·subst e;simp at h
  ·rw[List.concat_eq_append]at e
   subst e
   rw[Zg,if_neg (hb y (by simp))]
   exact ih B' (by simpa using h) (fun b hb'=>hb b (by simp[hb']))
theorem zjg {k:Int→Int} {A:List Int} {s:Int}(hs:k s=0):∀(n:Nat) (B:List Int),B.length=n→(∀b∈B,k b≠0)→zY k (A++s::B)=A.length:=by
 intro n
 induction n with
 |zero=>
  intro B h _
  rw[List.eq_nil_of_length_eq_zero h,Zg,if_pos hs]
 |succ n ih=>
  intro B h hb
  rcases List.eq_nil_or_concat B with e|⟨B',y,e⟩
  ·subst e;simp at h
  ·rw[List.concat_eq_append]at e
   subst e
   have e2:A++s::(B'++[y])=(A++s::B')++[y]:=by simp
   rw[e2,Zg,if_neg (hb y (by simp))]
   exact ih B' (by simpa using h) (fun b hb'=>hb b (by simp[hb']))
structure Xw(k:Int→Int)(full:Int→List Int)(O p:List Int):Prop where
 nfd:jK k (O.flatMap full)=p
 tail:∃(T B P R:List Int),O=T++B∧p=P++R∧B.Sublist R∧R.Pairwise (fun a b=>k a≤k b)∧(∀b∈R,k b≠0∧full b=[b])∧(T=[]∨∃A s,T=A++[s]∧k s=0)
theorem vj.last {k:Int→Int} {P R:List Int} {x:Int}(h:vj k (P++R++[x]))(hx:k x≠0)(hR:R.Pairwise fun a b=>k a≤k b):(R++[x]).Pairwise fun a b=>k a≤k b:=by
 rw[List.pairwise_append]
 refine⟨hR,by simp,fun a ha b hb=>?_⟩
 obtain rfl:=List.mem_singleton.1 hb
 rcases List.eq_nil_or_concat R with e|⟨R',y,e⟩
 ·subst e;simp at ha
 ·rw[List.concat_eq_append]at e
  subst e
  unfold vj at h
  rw[List.reverse_append,←List.append_assoc,List.reverse_append]at h
  have h1:k y≤k b:=(h.1.resolve_left hx) y _ rfl
  rcases List.mem_append.1 ha with ha|ha
  ·have:=(List.pairwise_append.1 hR).2.2 a ha y (by simp);omega
  ·obtain rfl:=List.mem_singleton.1 ha;exact h1
theorem Xw.push {k:Int→Int} {full:Int→List Int} {O p:List Int}(h:Xw k full O p) {x:Int}(hx:full x=[x])(ho:vj k (p++[x])):Xw k full (O++[x]) (p++[x]):=by
 obtain⟨h1,T,B,P,R,rfl,rfl,h2,h3,h4,h5⟩:=h
 constructor
 ·rw[List.flatMap_append,List.flatMap_singleton,hx,Ki,h1,zbr ho]
 ·by_cases c:k x=0
  ·exact⟨T++B++[x],[],P++R++[x],[],by simp,by simp,List.Sublist.refl _,List.Pairwise.nil,by simp,.inr ⟨T++B,x,rfl,c⟩⟩
  ·refine⟨T,B++[x],P,R++[x],by simp,by simp,List.Sublist.append h2 (List.Sublist.refl _),vj.last ho c h3,fun b hb=>?_,h5⟩
   rcases List.mem_append.1 hb with hb|hb
   ·exact h4 b hb
   ·obtain rfl:=List.mem_singleton.1 hb;exact⟨c,hx⟩
theorem Xw.step {k:Int→Int} {full:Int→List Int} {mk:Int→Int→Option Int}(hN:zl4 k full mk) {O p:List Int}(h:Xw k full O p) {x:Int}(hx:full x=[x])(ho:vj k (p++[x])):Xw k full (QG k mk O x) (p++[x]):=by
 have hpush:=h.push hx ho
 obtain⟨h1,T,B,P,R,rfl,rfl,h2,h3,h4,h5⟩:=h
 have hB:∀b∈B,k b≠0:=fun b hb=>(h4 b (h2.subset hb)).1
 unfold QG
 rcases h5 with rfl|⟨A,s,rfl,hs⟩
 ·rw[if_neg]
  ·exact hpush
  ·rintro⟨q,_⟩
   rw[List.nil_append,zen B.length B rfl hB]at q
   omega
 ·have e1:A++[s]++B=A++s::B:=by simp
  have hst:zY k (A++[s]++B)=A.length:=by rw[e1];exact zjg hs B.length B rfl hB
  rw[hst]
  split
  ·rename_i c
   have hg:(A++[s]++B)[(A.length:Int).toNat]?.getD 0=s:=by simp
   rw[hg]
   cases hm:mk s x with
   |none=>exact hpush
   |some r=>
    have hr:=hN.pair _ _ _ hm
    have hr0:=hN.start _ _ _ hm
    have hset:(A++[s]++B).set (A.length:Int).toNat r=A++[r]++B:=by
     rw[Int.toNat_natCast,e1,List.set_append_right _ _ (Nat.le_refl _),Nat.sub_self];simp
    simp only
    rw[hset]
    -- all that stands behind is less
    have hlt:∀b∈B,k b<k x:=by
     have hf:=c.2
     unfold uh at hf
     simp only[Bool.or_eq_true,decide_eq_true_eq]at hf
     rcases hf with hf|hf
     ·have:B=[]:=by
       simp only[List.length_append,List.length_singleton]at hf
       exact List.eq_nil_of_length_eq_zero (by omega)
      subst this;simp
     ·intro b hb
      rcases List.eq_nil_or_concat B with e|⟨B',y,e⟩
      ·subst e;simp at hb
      ·rw[List.concat_eq_append]at e
       subst e
       have hy:(A++[s]++(B'++[y]))[(A++[s]++(B'++[y])).length-1]?.getD 0=y:=by
        rw[←List.append_assoc];simp
       rw[hy]at hf
       have hp:=h3.sublist h2
       rcases List.mem_append.1 hb with hb|hb
       ·have:=(List.pairwise_append.1 hp).2.2 b hb y (by simp);omega
       ·obtain rfl:=List.mem_singleton.1 hb;exact hf
    have hfB:B.flatMap full=B:=by
     have:∀l:List Int,(∀b∈l,full b=[b])→l.flatMap full=l:=by
      intro l
      induction l with
      |nil=>intro _;rfl
      |cons b l ih=>intro hl;rw[List.flatMap_cons,hl b (by simp),ih (fun c hc=>hl c (List.mem_cons_of_mem _ hc))];rfl
     exact this B fun b hb=>(h4 b (h2.subset hb)).2
    constructor
    ·rw[←zbr ho,←h1,List.flatMap_append,List.flatMap_append,List.flatMap_singleton,hr,hx,hfB,List.flatMap_append,List.flatMap_append,List.flatMap_singleton,hfB]
     rw[←Ki]
     unfold jK
     have:=YW (k:=k) (x:=x) B (List.foldl (QK k) [] (A.flatMap full++full s)) (fun b hb=>⟨hB b hb,hlt b hb,hN.pos b⟩)
     simp only[List.foldl_cons,List.foldl_append,List.foldl_nil]at this⊢
     exact this
    ·by_cases c0:k x=0
     ·have hB0:B=[]:=by
       cases B with
       |nil=>rfl
       |cons b B=>have:=hlt b (by simp);have:=hN.pos b;omega
      subst hB0
      exact⟨A++[r],[],P++R++[x],[],by simp,by simp,List.Sublist.refl _,List.Pairwise.nil,by simp,.inr ⟨A,r,rfl,hr0⟩⟩
     ·refine⟨A++[r],B,P,R++[x],by simp,by simp,h2.trans (List.sublist_append_left _ _),vj.last ho c0 h3,fun b hb=>?_,.inr ⟨A,r,rfl,hr0⟩⟩
      rcases List.mem_append.1 hb with hb|hb
      ·exact h4 b hb
      ·obtain rfl:=List.mem_singleton.1 hb;exact⟨c0,hx⟩
  ·exact hpush
theorem zh9 {k:Int→Int} {full:Int→List Int} {mk:Int→Int→Option Int}(hN:zl4 k full mk):∀(n:Nat) (d:List Int),d.length=n→vj k d→(∀x∈d,full x=[x])→Xw k full (Zp k mk d) d:=by
 intro n
 induction n with
 |zero=>
  intro d h _ _
  rw[List.eq_nil_of_length_eq_zero h]
  exact⟨rfl,[],[],[],[],rfl,rfl,List.Sublist.refl _,List.Pairwise.nil,by simp,.inl rfl⟩
 |succ n ih=>
  intro d h ho hf
  rcases List.eq_nil_or_concat d with e|⟨d',y,e⟩
  ·subst e;simp at h
  ·rw[List.concat_eq_append]at e
   subst e
   rw[Wf]
   exact(ih d' (by simpa using h) ho.init (fun x hx=>hf x (by simp[hx]))).step hN (hf y (by simp)) ho
theorem zbj {k:Int→Int} {full:Int→List Int} {mk:Int→Int→Option Int}(hN:zl4 k full mk)(l:List Int):jK k ((Zp k mk (jK k (l.flatMap full))).flatMap full)=jK k (l.flatMap full):=
 (zh9 hN _ _ rfl (zjX k _) (fun x hx=>by
  obtain⟨y,_,hy⟩:=List.mem_flatMap.1 (zdu _ hx)
  exact hN.whole y x hy)).nfd
end Go.Proofs.YtjefahhmkcfiiaaGreat
end
section
namespace Go.Proofs.YtjefahhmkcfiiaaGreat
open Go.AM
set_option maxHeartbeats 1000000
set_option maxRecDepth 100000
def jH:List Row:=yX 2
def zmG:Bool:=jH.all fun w=>decide (w.f=w.t)&&(decide (w.t<4352) || decide (4546<w.f))&&decide (qj jH 8 w.f=(qj jH 8 w.a++if w.b=0 then []else qj jH 8 w.b))&&(qj jH 8 w.f).all fun y=>decide (qj jH 8 y=[y])
theorem zfN:zmG=true:=by decide+kernel
attribute [local irreducible] za
theorem zeq(r:Int):rowAt jH 2 r=rowAt za 2 r:=by
 unfold rowAt jH yX
 split
 ·rfl
 ·rw[List.find?_filter]
  congr 1
  funext x
  unfold ke
  simp
  intro a b c;exact a
theorem Jg(r:Int):Zk jH r=Zk za r:=by unfold Zk;rw[zeq]
theorem Vx:∀(d:Nat) (r:Int),qj jH d r=qj za d r
 |0,_=>rfl
 |d+1,r=>by
  unfold qj
  rw[Jg]
  split
  ·rfl
  ·cases Zk za r with
   |none=>rfl
   |some p=>simp only;rw[Vx d p.1,Vx d p.2]
theorem XH {w:Row}(h:w∈za)(hk:w.k=2):w.f=w.t∧(w.t<4352∨4546<w.f)∧qj za 8 w.f=(qj za 8 w.a++if w.b=0 then []else qj za 8 w.b)∧∀y∈qj za 8 w.f,qj za 8 y=[y]:=by
 have f:=List.all_eq_true.1 zfN w (List.mem_filter.2 ⟨h,by simp[hk]⟩)
 simp only[Bool.and_eq_true,Bool.or_eq_true,decide_eq_true_eq,List.all_eq_true,Vx]at f
 exact⟨f.1.1.1,f.1.1.2,f.1.2,f.2⟩
theorem zit {r:Int}(h:4352≤r∧r≤4546):Zk za r=none:=by
 unfold Zk
 cases hr:rowAt za 2 r with
 |none=>rfl
 |some w=>
  exfalso
  unfold rowAt at hr
  split at hr
  ·cases hr
  ·have h1:=List.mem_of_find?_eq_some hr
   have h2:=List.find?_some hr
   simp only[ke,Bool.and_eq_true,decide_eq_true_eq]at h2
   have:=XH h1 h2.1.1
   omega
theorem UB(r:Int):Zm r=true↔44032≤r∧r<55204:=by simp[Zm]
theorem WK {r:Int}(h:4352≤r∧r≤4546):qj za 8 r=[r]:=by
 have hs:Zm r=false:=by
  cases e:Zm r with
  |false=>rfl
  |true=>have:=(UB r).1 e;omega
 unfold qj
 rw[hs,zit h];rfl
theorem Um {r:Int}(h:Zm r=true):qj za 8 r=z5 r:=by unfold qj;rw[if_pos h]
theorem zkI {r:Int}(h:Zm r=true):∀y∈z5 r,4352≤y∧y≤4546:=by
 have hr:=(UB r).1 h
 intro y hy
 unfold z5 at hy
 split at hy
 ·simp only[List.mem_cons,List.not_mem_nil,or_false]at hy;omega
 ·simp only[List.mem_cons,List.not_mem_nil,or_false]at hy;omega
theorem zfE(x:Int):∀y∈qj za 8 x,qj za 8 y=[y]:=by
 cases hs:Zm x with
 |true=>
  rw[Um hs]
  exact fun y hy=>WK (zkI hs y hy)
 |false=>
  cases hp:Zk za x with
  |none=>
   have e:qj za 8 x=[x]:=by unfold qj;rw[hs,hp];rfl
   rw[e]
   intro y hy
   obtain rfl:=List.mem_singleton.1 hy
   exact e
  |some p=>
   unfold Zk at hp
   cases hr:rowAt za 2 x with
   |none=>rw[hr]at hp;cases hp
   |some w=>
    unfold rowAt at hr
    split at hr
    ·cases hr
    ·have h1:=List.mem_of_find?_eq_some hr
     have h2:=List.find?_some hr
     simp only[ke,Bool.and_eq_true,decide_eq_true_eq]at h2
     have:=XH h1 h2.1.1
     have e:x=w.f:=by omega
     rw[e];exact this.2.2.2
theorem ziH {a b c:Int}(h:z7 a b=some c):qj za 8 c=qj za 8 a++qj za 8 b:=by
 unfold z7 at h
 split at h
 ·rename_i g
  injection h with h
  have hs:Zm c=true:=(UB c).2 (by omega)
  rw[Um hs,WK (r:=a) (by omega),WK (r:=b) (by omega)]
  unfold z5
  rw[if_pos (by omega)]
  have e1:4352+(c-44032)/588=a:=by omega
  have e2:4449+(c-44032)/28%21=b:=by omega
  rw[e1,e2];rfl
 ·split at h
  ·rename_i g
   injection h with h
   have ha:=(UB a).1 g.1
   have hs:Zm c=true:=(UB c).2 (by omega)
   rw[Um hs,Um g.1,WK (r:=b) (by omega)]
   unfold z5
   rw[if_neg (by omega),if_pos g.2.1]
   have e1:(c-44032)/588=(a-44032)/588:=by omega
   have e2:(c-44032)/28=(a-44032)/28:=by omega
   have e3:4519+(c-44032)%28=b:=by omega
   rw[e1,e2,e3];rfl
  ·cases h
theorem zlN:zl4 (kD za) (qj za 8) (mkD za)where
 pos:=zhb
 whole:=zfE
 start:=zkB
 pair a b c h:=by
  unfold mkD at h
  cases hj:z7 a b with
  |some z=>
   rw[hj]at h
   simp only[Option.some_or,Option.some.injEq]at h
   subst h
   exact ziH hj
  |none=>
   rw[hj,Option.none_or,WS]at h
   have hm:=Yh h
   obtain⟨w,hw,hc⟩:=List.mem_filterMap.1 hm
   unfold vA at hc
   split at hc
   ·rename_i g
    injection hc with hc
    injection hc with h1 h2
    injection h1 with h3 h4
    have:=(XH hw g.1).2.2.1
    rw[if_neg g.2.1,h2,h3,h4]at this
    exact this
   ·cases hc
theorem Ky(l:List Int):zZ za (zZ za l)=zZ za l:=by
 have h:ky za (zZ za l)=ky za l:=zbj zlN l
 have e:∀x,zZ za x=vO za (ky za x):=fun _=>rfl
 rw[e (zZ za l),h];rfl
end Go.Proofs.YtjefahhmkcfiiaaGreat
end
section
namespace Go.Proofs.YtjefahhmkcfiiaaGreat
open Go.AM
set_option maxHeartbeats 1000000
set_option maxRecDepth 100000
def zn4:Bool:=(yX 2).all fun w=>decide (w.f=w.t)&&decide ((qj za 8 w.f).length≤3)
theorem zjS:zn4=true:=by decide+kernel
attribute [local irreducible] za
theorem zcL(r:Int):(z5 r).length≤3:=by unfold z5;split<;>simp
theorem zgh(r:Int):(qj za 8 r).length≤3:=by
 by_cases hs:Zm r=true
 ·unfold qj;rw[if_pos hs];exact zcL r
 ·cases hp:Zk za r with
  |none=>unfold qj;rw[if_neg hs,hp];simp
  |some p=>
   unfold Zk at hp
   cases hr:rowAt za 2 r with
   |none=>rw[hr]at hp;simp at hp
   |some w=>
    unfold rowAt at hr
    split at hr
    ·simp at hr
    ·have h1:=List.mem_of_find?_eq_some hr
     have h2:=List.find?_some hr
     simp only[ke,Bool.and_eq_true,decide_eq_true_eq]at h2
     have f:=List.all_eq_true.1 zjS w (List.mem_filter.2 ⟨h1,by simp[h2.1.1]⟩)
     simp only[Bool.and_eq_true,decide_eq_true_eq]at f
     have:r=w.f:=by omega
     rw[this];exact f.2
theorem yC(l:List Int):(ZF za l).length≤3*l.length:=by
 unfold ZF
 induction l with
 |nil=>simp
 |cons r l ih=>
  have:=zgh r
  rw[List.flatMap_cons,List.length_append,List.length_cons]
  omega
theorem zhh(l:List Int):(zL za (zZ za l)).length≤3*l.length:=by
 have h1:=Zr.num (zZ za l)
 have h2:=wL (kD za) (mkD za) (ky za l) []
 have h3:(ky za l).length=(ZF za l).length:=xC _ _
 have h4:=yC l
 have h5:(zZ za l).length=((ky za l).foldl (QG (kD za) (mkD za)) []).length:=rfl
 simp only[List.length_nil]at h2
 omega
end Go.Proofs.YtjefahhmkcfiiaaGreat
end
section
namespace Go.AM
def Sem [Gi](P:Program)(c:Code)(Q:Exit→St→Prop)(S:St):Prop:=∀(E:Ent) (g:Gh) (a:Act) (w:World),SR E S g a w→c.wp P (post E Q) a w
theorem Sem.of [Gi] {P:Program}(D:List Nat) {c:Code} {Q:Exit→St→Prop} {S:St}(hm:P.follows .mixedOrders=true)(h:wpA P D c Q S)(hok:Zu D c=true:=by rfl):Sem P c Q S:=
 fun _ _ _ _ hS=>Qd hm c hok h hS
def zkt [Gi](P:Program)(y:Code)(Q:Exit→St→Prop):Exit→St→Prop:=fun e S=>match e with|.normal=>Sem P y Q S|e=>Q e S
@[go_sem] theorem znt [Gi] {P : Program} {y : Code} {Q : Exit → St → Prop} {S : St} : zkt P y Q .normal S = Sem P y Q S := _root_.id rfl
@[go_sem] theorem zpf [Gi] {P : Program} {y : Code} {Q : Exit → St → Prop} {S : St} : zkt P y Q .ret S = Q .ret S := _root_.id rfl
theorem Sem.seq [Gi] {P:Program} {x y:Code} {Q:Exit→St→Prop} {S:St}(h:Sem P x (zkt P y Q) S):Sem P (.seq x y) Q S:=by
 intro E g a w hS
 refine wp_seq (wp_mono (h E g a w hS) ?_)
 rintro e a' w' ⟨S',g',hq,hs⟩
 cases e with
 |normal=>exact hq E g' a' w' hs
 |_=>exact⟨S',g',hq,hs⟩
theorem Sem.Zx [Gi] {P:Program}(D:List Nat) {x y:Code} {Q:Exit→St→Prop} {S:St}(hm:P.follows .mixedOrders=true)(h:wpA P D x (zkt P y Q) S)(hok:Zu D x=true:=by rfl):Sem P (.seq x y) Q S:=Sem.seq (Sem.of D hm h hok)
theorem Sem.mono [Gi] {P:Program} {c:Code} {Q Q':Exit→St→Prop} {S:St}(h:Sem P c Q S)(hq:∀e S',Q e S'→Q' e S'):Sem P c Q' S:=
 fun E g a w hS=>wp_mono (h E g a w hS) fun _ _ _ ⟨S',g',k,hs⟩=>⟨S',g',hq _ _ k,hs⟩
theorem Sem.label [Gi] {P:Program} {l:Nat} {y:Code} {Q:Exit→St→Prop} {S:St}(h:Sem P y Q S):Sem P (.seq (.label l) y) Q S:=by
 intro E g a w hS
 exact wp_seq (wp_label (h E g a w hS))
theorem Sem.goto [Gi] {P:Program} {l:Nat} {Q:Exit→St→Prop} {S:St}(h:Q (.goto l) S):Sem P (.goto l) Q S:=fun _ g _ _ hS=>wp_goto ⟨S,g,h,hS⟩
theorem Sem.skip [Gi] {P:Program} {Q:Exit→St→Prop} {S:St}(h:Q .normal S):Sem P .skip Q S:=fun _ g _ _ hS=>wp_skip ⟨S,g,h,hS⟩
theorem Sem.cond [Gi] {P:Program} {c:Operand} {x y:Code} {Q:Exit→St→Prop} {S:St}(b:Bool)(hc:S.ev c=.p (.bool b))(h:Sem P (if b then x else y) Q S):Sem P (.cond c x y) Q S:=by
 intro E g a w hS
 have hr:=hS.ev c
 rw[hc]at hr
 simp only[zc,zl]at hr
 cases b with
 |true=>exact wp_cond_true hr (h E g a w hS)
 |false=>exact wp_cond_false hr (h E g a w hS)
theorem Sem.clean [Gi] {P:Program} {c:Code} {Q:Exit→St→Prop} {S:St}(h:Sem P c Q {S with ts:=[]}):Sem P c Q S:=fun E g a w hS=>h E g a w hS.clean
theorem Sem.le [Gi] {P:Program} {c:Code} {Q:Exit→St→Prop} {S S1:St}(h:Sem P c Q S1)(hl:LeS S S1):Sem P c Q S:=fun E _ a w hS=>by
 obtain⟨g',h'⟩:=hS.le hl
 exact h E g' a w h'
def zpS(Q:Exit→St→Prop):Exit→St→Prop:=fun e S=>match e with|.goto _=>False|e=>Q e S
@[go_sem] theorem zph {Q : Exit → St → Prop} {S : St} : zpS Q .ret S = Q .ret S := _root_.id rfl
theorem Sem.scope [Gi] {P:Program} {c:Code} {Q:Exit→St→Prop} {S:St}(h:Sem P c (zpS Q) S):Sem P (.scope c) Q S:=by
 intro E g a w hS
 refine wp_scope_straight (wp_mono (h E g a w hS) ?_)
 rintro e a' w' ⟨S',g',hq,hs⟩
 cases e with
 |goto l=>exact hq.elim
 |_=>exact⟨S',g',hq,hs⟩
def Y4 {ι:Type}(l:Nat)(inv:ι→Prop)(st:ι→St)(Q:Exit→St→Prop):Exit→St→Prop:=fun e S=>match e with|.goto l'=>l'=l∧∃j,inv j∧LeS S (st j)|e=>Q e S
@[go_sem] theorem zoX {ι : Type} {l : Nat} {inv : ι → Prop} {st : ι → St} {Q : Exit → St → Prop} {S : St} : Y4 l inv st Q .ret S = Q .ret S := _root_.id rfl
theorem Sem.jumps [Gi] {P:Program} {c rest:Code} {Q:Exit→St→Prop} {S:St} {ι:Type}(l:Nat)(inv:ι→Prop)(st:ι→St)(m:ι→Nat)(hf:findLabel c l=some rest)
  (first:Sem P c (Y4 l inv st Q) S) (pass:∀i,inv i→Sem P rest (Y4 l (fun j=>inv j∧m j<m i) st Q) (st i)):Sem P (.scope c) Q S:=by
 intro E g a w hS
 let J:Act→World→Prop:=fun a w=>∃i g,inv i∧SR E (st i) g a w
 let M:Act→World→Nat→Prop:=fun a w n=>∃i g,inv i∧SR E (st i) g a w∧m i≤n
 have hM:∀a w,∃n,(∃k,M a w k)→M a w n∧∀k,M a w k→n≤k:=by
  intro a w
  by_cases h:∃k,M a w k
  ·obtain⟨k,hk⟩:=h
   induction k using Nat.strongRecOn with
   |_ k ih=>
    by_cases h2:∃k',k'<k∧M a w k'
    ·obtain⟨k',h3,h4⟩:=h2
     exact ih k' h3 h4
    ·refine⟨k,fun _=>⟨hk,fun k' hk'=>?_⟩⟩
     by_cases h3:k'<k
     ·exact absurd ⟨k',h3,hk'⟩ h2
     ·omega
  ·exact⟨0,fun h'=>absurd h' h⟩
 let μ:Act→World→Nat:=fun a w=>Classical.choose (hM a w)
 have hμ:∀a w,(∃k,M a w k)→M a w (μ a w)∧∀k,M a w k→μ a w≤k:=fun a w=>Classical.choose_spec (hM a w)
 refine wp_scope_jumps l J μ hf (wp_mono (first E g a w hS) ?_) ?_
 ·rintro e a' w' ⟨S',g',hq,hs⟩
  cases e with
  |goto l'=>
   obtain⟨rfl,j,hj,hl⟩:=hq
   obtain⟨g2,h2⟩:=hs.le hl
   exact⟨rfl,j,g2,hj,h2⟩
  |_=>exact⟨S',g',hq,hs⟩
 ·rintro a w ⟨i0,g0,hi0,hs0⟩
  obtain⟨⟨i,g1,hi,hs1,hle⟩,_⟩:=hμ a w ⟨m i0,i0,g0,hi0,hs0,Nat.le_refl _⟩
  refine wp_mono (pass i hi E g1 a w hs1) ?_
  rintro e a' w' ⟨S',g',hq,hs⟩
  cases e with
  |goto l'=>
   obtain⟨rfl,j,⟨hj,hlt⟩,hl⟩:=hq
   obtain⟨g2,h2⟩:=hs.le hl
   refine⟨rfl,⟨j,g2,hj,h2⟩,?_⟩
   have:=(hμ a' w' ⟨m j,j,g2,hj,h2,Nat.le_refl _⟩).2 (m j) ⟨j,g2,hj,h2,Nat.le_refl _⟩
   omega
  |_=>exact⟨S',g',hq,hs⟩
theorem Wl [Gi] {P:Program} {f:FuncId} {fn:Func} {c:Code} {ts:List (Nat×Option TypeId)}(nv:Nat)(ex:List Nat)(hf:P.funcs[f]?=some fn)(hb:fn.body=some c)(rm:List Nat)
  (hres:uu fn.results.toList=some ts) {pin:List Tok} {args:List AV} {rs:List (Tok×List AV)} {R:AV→List (Tok×List AV)→Prop} (hnv:args.length≤nv) (hn:args.length≤fn.ntmps)
  (h:Sem P c (uj P pin ts R) {n:=fn.ntmps,nv:=nv,vs:=vg 0 args,ts:=[],rs:=rs,pin:=pin,ex:=ex,rm:=rm}):CR P f pin args rs R:=by
 intro w g vs hargs hG
 have hlen:vs.length=args.length:=by
  have h0:args.length≤nv:=hnv
  clear h0 h hnv hn
  induction args generalizing vs with
  |nil=>simp only[zt]at hargs;subst hargs;rfl
  |cons x xs ih=>simp only[zt]at hargs;obtain⟨v,vs',rfl,_,h2⟩:=hargs;simp[ih vs' h2]
 let E:Ent:=⟨w,g,hG.gl⟩
 have hS:SR E {n:=fn.ntmps,nv:=nv,vs:=vg 0 args,ts:=[],rs:=rs,pin:=pin,ex:=ex,rm:=rm} g {tmps:=vs.toArray++Array.replicate (fn.ntmps-vs.toArray.size) undef,defers:=[]} w:=by
  refine⟨by simp;omega,rfl,fun t=>?_,hG.roots,hG.ur,hG.ut,fun b hb=>⟨hG.own b hb,.inr hb⟩,fun b _=>⟨rfl,rfl⟩,Ext.refl _ _,⟨rfl,rfl,rfl⟩,Nat.le_refl _,hG.frb,fun b t hk _=>⟨hk,fun _ hn=>hn⟩⟩
  unfold St.get
  split
  ·simp only[wW,Nat.zero_le,if_true,Nat.sub_zero]
   cases hx:args[t]? with
   |none=>simp only[qC,zc]
   |some x=>
    simp only[qC]
    obtain⟨v,hv,hr⟩:=hargs.get hx
    have hvl:=(List.getElem?_eq_some_iff.1 hv).1
    have:(vs.toArray++Array.replicate (fn.ntmps-vs.toArray.size) undef).getD t undef=v:=by
     simp[Array.getD_eq_getD_getElem?,Array.getElem?_append,hvl]
     have:=(List.getElem?_eq_some_iff.1 hv).2
     exact this
    rw[this];exact hr
  ·simp only[look,qC,zc]
 refine calls_of_wp hf hb (wp_mono (h E g _ w hS) ?_)
 rintro e a' w' ⟨S',g',hq,hs⟩
 have fin:WV P pin ts R S'→a'.defers=[]∧∃v,(results fn a'.tmps).run P w'=.ok v w'∧∃v' x rs' g'',Ending.returned v=.returned v'∧R x rs'∧zc g'' w' x v'∧GS g'' w' rs'∧Aft g w g'' w' pin:=fun h=>⟨hs.defers,UE hres hs h⟩
 cases e with
 |normal=>exact fin hq
 |ret=>exact fin hq
 |_=>exact hq.elim
end Go.AM
namespace Go.AM
theorem zg5 [Gi] {P:Program} {y:Code} {ι:Type} {l:Nat} {inv:ι→Prop} {st:ι→St} {Q:Exit→St→Prop} {S:St}(j:ι)(h1:inv j)(h2:LeS S (st j)):zkt P y (Y4 l inv st Q) (.goto l) S:=⟨rfl,j,h1,h2⟩
theorem Sem.zoe [Gi] {P:Program} {c rest:Code} {Q:Exit→St→Prop} {S:St} {ι:Type}(l:Nat)(inv:ι→Prop)(st:ι→St)(m:ι→Nat)(hf:findLabel c l=some (.seq .skip rest))
  (first:(∀i,inv i→Sem P rest (Y4 l inv st Q) (st i))→Sem P c (Y4 l inv st Q) S) (pass:∀i,inv i→Sem P rest (Y4 l (fun j=>inv j∧m j<m i) st Q) (st i)):Sem P (.scope c) Q S:=
 Sem.jumps l inv st m hf (first fun i hi=>(pass i hi).mono fun e S' h=>by
  cases e with
  |goto l'=>
   obtain⟨h1,j,h2,h3⟩:=h
   exact⟨h1,j,h2.1,h3⟩
  |_=>exact h) (fun i hi=>Sem.seq (Sem.skip (pass i hi)))
end Go.AM
end
