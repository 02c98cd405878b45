/- A part of the proof of this seat's statements, by an abstract machine: what each operation does to values, and what the law's functions compute. Conditions: as each law says. -/
import Derived.Test.YthbmelihnabkaaaGreatW36
import Derived.Test.YthbmelihnabkaaaGreatW38
section
namespace Go.Proofs.YthbmelihnabkaaaGreat
open Go.AM
set_option maxHeartbeats 4000000
set_option maxRecDepth 10000
end Go.Proofs.YthbmelihnabkaaaGreat
end
section
namespace Go.Proofs.YthbmelihnabkaaaGreat
open Go.AM
set_option maxHeartbeats 4000000
set_option maxRecDepth 100000
theorem atJ(i:Int):∀(l init:List Span) (o:Span),qZ (o::l)→(atL (vO init o l) i).map (·.a)=(atL (init++o::l) i).map (·.a)
 | [],_,_,_=>rfl
 |s::l,init,o,h=>by
  obtain⟨h1,h2,h3,h4,h5⟩:=h
  unfold vO
  by_cases c:o.t+1=s.f∧o.a=s.a∧o.b=s.b
  ·rw[if_pos c,atJ i l init {o with t:=s.t} ⟨show o.f≤s.t by omega,h4,h5⟩]
   unfold atL
   rw[List.find?_append,List.find?_append]
   cases init.find? (fun s=>decide (s.f≤i∧i≤s.t))with
   |some x=>rfl
   |none=>
    simp only[Option.none_or,List.find?_cons]
    by_cases q1:o.f≤i∧i≤o.t
    ·have e1:decide (o.f≤i∧i≤s.t)=true:=decide_eq_true ⟨q1.1,by omega⟩
     have e2:decide (o.f≤i∧i≤o.t)=true:=decide_eq_true q1
     rw[e1,e2];rfl
    ·have e2:decide (o.f≤i∧i≤o.t)=false:=decide_eq_false q1
     rw[e2]
     by_cases q2:s.f≤i∧i≤s.t
     ·have e1:decide (o.f≤i∧i≤s.t)=true:=decide_eq_true ⟨by omega,q2.2⟩
      have e3:decide (s.f≤i∧i≤s.t)=true:=decide_eq_true q2
      rw[e1,e3]
      exact congrArg some c.2.1
     ·have e1:decide (o.f≤i∧i≤s.t)=false:=decide_eq_false (by omega)
      have e3:decide (s.f≤i∧i≤s.t)=false:=decide_eq_false q2
      rw[e1,e3]
  ·rw[if_neg c,atJ i l (init++[o]) s ⟨h3,h4,h5⟩]
   simp
theorem zd8(l:List Span)(c:Int):qR l c=decide ((atL l c).map (·.a)=some 1):=by
 unfold qR
 cases atL l c with
 |none=>rfl
 |some s=>simp only[Option.map_some,Option.some.injEq];rfl
theorem zl9(c:Int)(l:List Span)(h:qZ l):qR (Z7 l) c=qR l c:=by
 cases l with
 |nil=>rfl
 |cons s l=>
  rw[zd8,zd8]
  exact congrArg (fun x=>decide (x=some 1)) (atJ c l [] s h)
theorem zlx(r:Int):(T0.flg (rn r)).l=decide (aL za 8 r=1):=by
 by_cases h:0≤r∧r≤1114111
 ·have e:(T0.flg (rn r)).l=qR (qg za 8) r:=by
   rw[uU (by omega)];exact congrArg (qR (qg za 8)) (Int.toNat_of_nonneg h.1)
  rw[e,uq _ _ _ h]
  unfold qg
  rw[zl9 _ _ (jy zop).rise]
  unfold qR spA
  cases atL (zP za 8) r with
  |none=>rfl
  |some s=>simp only;rfl
 ·rw[xz (by omega),UP _ _ _ h,Z0.f];rfl
attribute [local irreducible] za
def QS(L:List (List Int))(i:Nat):Bool:=decide (aL za 8 (((L[i]?).getD [])[0]?.getD 0)=1)
structure zma(L:List (List Int)):Prop where
 n:L.length<2^31
 r:∀c∈L,∃x c',c=x::c'∧zu x
def bkW(L:List (List Int))(q:Bool):Nat→Nat
 |0=>0
 |p+1=>if QS L p=q then bkW L q p else p+1
def fwW(L:List (List Int))(q:Bool):Nat→Nat→Nat
 |0,p=>p
 |n+1,p=>if QS L p=q then fwW L q n (p+1)else p
end Go.Proofs.YthbmelihnabkaaaGreat
end
section
namespace Go.Proofs.YthbmelihnabkaaaGreat
open Go.AM
set_option maxHeartbeats 4000000
set_option maxRecDepth 10000
attribute [local irreducible] za
theorem zgb(rows:List Row):∀(n:Nat) (pre l:List Int),∀c∈ZY rows n pre l,∃x c',c=x::c'
 |0,_,_,c,h=>by simp[ZY]at h
 |_+1,_,[],c,h=>by simp[ZY]at h
 |n+1,pre,x::l,c,h=>by
  rw[ZY]at h
  rcases List.mem_cons.1 h with rfl|h
  ·exact⟨_,_,rfl⟩
  ·exact zgb rows n _ _ c h
theorem Yi(l:List Int)(hn:l.length<2^31)(hr:∀x∈l,zu x):zma (qn za l)where
 n:=by have:=kd.num l;omega
 r c hc:=by
  obtain⟨x,c',rfl⟩:=zgb za _ _ _ c hc
  refine⟨x,c',rfl,hr x ?_⟩
  have:x∈(qn za l).flatten:=List.mem_flatten.2 ⟨_,hc,by simp⟩
  rw[kd.flat]at this
  exact this
end Go.Proofs.YthbmelihnabkaaaGreat
end
section
namespace Go.Proofs.YthbmelihnabkaaaGreat
open Go.AM
set_option maxHeartbeats 1000000
def zkN(k:Int→Int):List Int→Prop
 | []=>True
 |x::l=>(k x=0∨∀y l',l=y::l'→k y≤k x)∧zkN k l
def xS(k:Int→Int)(l:List Int):Prop:=zkN k l.reverse
theorem zeH {k:Int→Int} {x:Int} {l:List Int}(h:k x=0∨∀y l',l=y::l'→k y≤k x):z5 k x l=x::l:=by
 cases l with
 |nil=>rfl
 |cons y l=>
  rw[z5,if_neg]
  rintro⟨h1,h2⟩
  rcases h with h|h
  ·exact h1 h
  ·have:=h y l rfl;omega
theorem JS {k:Int→Int}(x:Int):∀l,zkN k l→zkN k (z5 k x l)
 | [],_=>⟨.inr (by simp),trivial⟩
 |y::l,h=>by
  unfold z5
  split
  ·rename_i c
   refine⟨?_,JS x l h.2⟩
   cases l with
   |nil=>right;intro z l' e;rw[z5]at e;injection e with e1 _;subst e1;omega
   |cons z l=>
    rcases h.1 with h1|h1
    ·exact .inl h1
    ·right
     intro u l' e
     have h2:=h1 z l rfl
     unfold z5 at e
     split at e
     ·injection e with e1 _;subst e1;exact h2
     ·injection e with e1 _;subst e1;omega
  ·rename_i c
   refine⟨?_,h⟩
   by_cases c0:k x=0
   ·exact .inl c0
   ·right
    intro z l' e
    injection e with e1 _
    subst e1
    rcases Int.lt_or_le (k x) (k y)with q|q
    ·exact absurd ⟨c0,q⟩ c
    ·exact q
theorem YJ(k:Int→Int)(O:List Int)(x:Int):(Q4 k O x).reverse=z5 k x O.reverse:=by simp[Q4]
theorem zjP {k:Int→Int} {O:List Int}(h:xS k O)(x:Int):xS k (Q4 k O x):=by
 unfold xS
 rw[YJ]
 exact JS x _ h
theorem X0 {k:Int→Int}:∀(l O:List Int),xS k O→xS k (l.foldl (Q4 k) O)
 | [],_,h=>h
 |x::l,_,h=>X0 l _ (zjP h x)
theorem ziO(k:Int→Int)(l:List Int):xS k (jU k l):=X0 l [] trivial
theorem zav {k:Int→Int} {p:List Int} {x:Int}(h:xS k (p++[x])):Q4 k p x=p++[x]:=by
 unfold xS at h
 rw[List.reverse_append,List.reverse_singleton,List.singleton_append]at h
 have:=zeH h.1
 unfold Q4
 rw[this]
 simp
theorem xS.init {k:Int→Int} {p:List Int} {x:Int}(h:xS k (p++[x])):xS k p:=by
 unfold xS at h⊢
 rw[List.reverse_append]at h
 exact h.2
theorem U8 {k:Int→Int} {x b:Int}(h0:k b≠0)(h1:k b<k x)(hp:0≤k b):∀l,z5 k b (z5 k x l)=z5 k x (z5 k b l)
 | []=>by
  simp only[z5]
  rw[if_pos ⟨h0,h1⟩,if_neg (by omega)]
 |y::l=>by
  by_cases c:k x<k y
  ·have e1:z5 k x (y::l)=y::z5 k x l:=by rw[z5,if_pos ⟨by omega,c⟩]
   have e2:z5 k b (y::l)=y::z5 k b l:=by rw[z5,if_pos ⟨h0,by omega⟩]
   have e3:∀m,z5 k b (y::m)=y::z5 k b m:=fun m=>by rw[z5,if_pos ⟨h0,by omega⟩]
   have e4:∀m,z5 k x (y::m)=y::z5 k x m:=fun m=>by rw[z5,if_pos ⟨by omega,c⟩]
   rw[e1,e2,e3,e4,U8 h0 h1 hp l]
  ·have e1:z5 k x (y::l)=x::y::l:=by rw[z5,if_neg (by omega)]
   rw[e1]
   have e2:z5 k b (x::y::l)=x::z5 k b (y::l):=by rw[z5,if_pos ⟨h0,h1⟩]
   rw[e2]
   have e3:∃z m,z5 k b (y::l)=z::m∧k z≤k x:=by
    unfold z5
    split
    ·exact⟨y,_,rfl,by omega⟩
    ·exact⟨b,_,rfl,by omega⟩
   obtain⟨z,m,e4,e5⟩:=e3
   rw[e4,z5,if_neg (by omega)]
theorem zgV {k:Int→Int} {x b:Int}(h0:k b≠0)(h1:k b<k x)(hp:0≤k b)(O:List Int):Q4 k (Q4 k O x) b=Q4 k (Q4 k O b) x:=by
 have e:∀A y,Q4 k A y=(z5 k y A.reverse).reverse:=fun _ _=>rfl
 rw[e (Q4 k O x),YJ,e (Q4 k O b),YJ,U8 h0 h1 hp]
theorem Yb {k:Int→Int} {x:Int}:∀(B O:List Int),(∀b∈B,k b≠0∧k b<k x∧0≤k b)→(x::B).foldl (Q4 k) O=(B++[x]).foldl (Q4 k) O
 | [],_,_=>rfl
 |b::B,O,h=>by
  obtain⟨h0,h1,h2⟩:=h b (by simp)
  rw[List.foldl_cons,List.foldl_cons,zgV h0 h1 h2,List.cons_append,List.foldl_cons,←Yb B (Q4 k O b) (fun c hc=>h c (List.mem_cons_of_mem _ hc)),List.foldl_cons]
structure zk3(k:Int→Int)(full:Int→List Int)(mk:Int→Int→Option Int):Prop where
 pos:∀x,0≤k x
 whole:∀x,∀y∈full x,full y=[y]
 pair:∀a b c,mk a b=some c→full c=full a++full b
 start:∀a b c,mk a b=some c→k c=0
theorem zcM {k:Int→Int}:∀(n:Nat) (B:List Int),B.length=n→(∀b∈B,k b≠0)→qi k B= -1:=by
 intro n
 induction n with
 |zero=>intro B h _;rw[List.eq_nil_of_length_eq_zero h];rfl
 |succ n ih=>
  intro B h hb
  rcases List.eq_nil_or_concat B with e|⟨B',y,e⟩
  ·subst e;simp at h
  ·rw[List.concat_eq_append]at e
   subst e
   rw[ZL,if_neg (hb y (by simp))]
   exact ih B' (by simpa using h) (fun b hb'=>hb b (by simp[hb']))
theorem zg3 {k:Int→Int} {A:List Int} {s:Int}(hs:k s=0):∀(n:Nat) (B:List Int),B.length=n→(∀b∈B,k b≠0)→qi k (A++s::B)=A.length:=by
 intro n
 induction n with
 |zero=>
  intro B h _
  rw[List.eq_nil_of_length_eq_zero h,ZL,if_pos hs]
 |succ n ih=>
  intro B h hb
  rcases List.eq_nil_or_concat B with e|⟨B',y,e⟩
  ·subst e;simp at h
  ·rw[List.concat_eq_append]at e
   subst e
   have e2:A++s::(B'++[y])=(A++s::B')++[y]:=by simp
   rw[e2,ZL,if_neg (hb y (by simp))]
   exact ih B' (by simpa using h) (fun b hb'=>hb b (by simp[hb']))
structure YM(k:Int→Int)(full:Int→List Int)(O p:List Int):Prop where
 nfd:jU k (O.flatMap full)=p
 tail:∃(T B P R:List Int),O=T++B∧p=P++R∧B.Sublist R∧R.Pairwise (fun a b=>k a≤k b)∧(∀b∈R,k b≠0∧full b=[b])∧(T=[]∨∃A s,T=A++[s]∧k s=0)
theorem xS.last {k:Int→Int} {P R:List Int} {x:Int}(h:xS k (P++R++[x]))(hx:k x≠0)(hR:R.Pairwise fun a b=>k a≤k b):(R++[x]).Pairwise fun a b=>k a≤k b:=by
 rw[List.pairwise_append]
 refine⟨hR,by simp,fun a ha b hb=>?_⟩
 obtain rfl:=List.mem_singleton.1 hb
 rcases List.eq_nil_or_concat R with e|⟨R',y,e⟩
 ·subst e;simp at ha
 ·rw[List.concat_eq_append]at e
  subst e
  unfold xS at h
  rw[List.reverse_append,←List.append_assoc,List.reverse_append]at h
  have h1:k y≤k b:=(h.1.resolve_left hx) y _ rfl
  rcases List.mem_append.1 ha with ha|ha
  ·have:=(List.pairwise_append.1 hR).2.2 a ha y (by simp);omega
  ·obtain rfl:=List.mem_singleton.1 ha;exact h1
theorem YM.push {k:Int→Int} {full:Int→List Int} {O p:List Int}(h:YM k full O p) {x:Int}(hx:full x=[x])(ho:xS k (p++[x])):YM k full (O++[x]) (p++[x]):=by
 obtain⟨h1,T,B,P,R,rfl,rfl,h2,h3,h4,h5⟩:=h
 constructor
 ·rw[List.flatMap_append,List.flatMap_singleton,hx,Ui,h1,zav ho]
 ·by_cases c:k x=0
  ·exact⟨T++B++[x],[],P++R++[x],[],by simp,by simp,List.Sublist.refl _,List.Pairwise.nil,by simp,.inr ⟨T++B,x,rfl,c⟩⟩
  ·refine⟨T,B++[x],P,R++[x],by simp,by simp,List.Sublist.append h2 (List.Sublist.refl _),xS.last ho c h3,fun b hb=>?_,h5⟩
   rcases List.mem_append.1 hb with hb|hb
   ·exact h4 b hb
   ·obtain rfl:=List.mem_singleton.1 hb;exact⟨c,hx⟩
theorem YM.step {k:Int→Int} {full:Int→List Int} {mk:Int→Int→Option Int}(hN:zk3 k full mk) {O p:List Int}(h:YM k full O p) {x:Int}(hx:full x=[x])(ho:xS k (p++[x])):YM k full (yc k mk O x) (p++[x]):=by
 have hpush:=h.push hx ho
 obtain⟨h1,T,B,P,R,rfl,rfl,h2,h3,h4,h5⟩:=h
 have hB:∀b∈B,k b≠0:=fun b hb=>(h4 b (h2.subset hb)).1
 unfold yc
 rcases h5 with rfl|⟨A,s,rfl,hs⟩
 ·rw[if_neg]
  ·exact hpush
  ·rintro⟨q,_⟩
   rw[List.nil_append,zcM B.length B rfl hB]at q
   omega
 ·have e1:A++[s]++B=A++s::B:=by simp
  have hst:qi k (A++[s]++B)=A.length:=by rw[e1];exact zg3 hs B.length B rfl hB
  rw[hst]
  split
  ·rename_i c
   have hg:(A++[s]++B)[(A.length:Int).toNat]?.getD 0=s:=by simp
   rw[hg]
   cases hm:mk s x with
   |none=>exact hpush
   |some r=>
    have hr:=hN.pair _ _ _ hm
    have hr0:=hN.start _ _ _ hm
    have hset:(A++[s]++B).set (A.length:Int).toNat r=A++[r]++B:=by
     rw[Int.toNat_natCast,e1,List.set_append_right _ _ (Nat.le_refl _),Nat.sub_self];simp
    simp only
    rw[hset]
    -- all that stands behind is less
    have hlt:∀b∈B,k b<k x:=by
     have hf:=c.2
     unfold Ka at hf
     simp only[Bool.or_eq_true,decide_eq_true_eq]at hf
     rcases hf with hf|hf
     ·have:B=[]:=by
       simp only[List.length_append,List.length_singleton]at hf
       exact List.eq_nil_of_length_eq_zero (by omega)
      subst this;simp
     ·intro b hb
      rcases List.eq_nil_or_concat B with e|⟨B',y,e⟩
      ·subst e;simp at hb
      ·rw[List.concat_eq_append]at e
       subst e
       have hy:(A++[s]++(B'++[y]))[(A++[s]++(B'++[y])).length-1]?.getD 0=y:=by
        rw[←List.append_assoc];simp
       rw[hy]at hf
       have hp:=h3.sublist h2
       rcases List.mem_append.1 hb with hb|hb
       ·have:=(List.pairwise_append.1 hp).2.2 b hb y (by simp);omega
       ·obtain rfl:=List.mem_singleton.1 hb;exact hf
    have hfB:B.flatMap full=B:=by
     have:∀l:List Int,(∀b∈l,full b=[b])→l.flatMap full=l:=by
      intro l
      induction l with
      |nil=>intro _;rfl
      |cons b l ih=>intro hl;rw[List.flatMap_cons,hl b (by simp),ih (fun c hc=>hl c (List.mem_cons_of_mem _ hc))];rfl
     exact this B fun b hb=>(h4 b (h2.subset hb)).2
    constructor
    ·rw[←zav ho,←h1,List.flatMap_append,List.flatMap_append,List.flatMap_singleton,hr,hx,hfB,List.flatMap_append,List.flatMap_append,List.flatMap_singleton,hfB]
     rw[←Ui]
     unfold jU
     have:=Yb (k:=k) (x:=x) B (List.foldl (Q4 k) [] (A.flatMap full++full s)) (fun b hb=>⟨hB b hb,hlt b hb,hN.pos b⟩)
     simp only[List.foldl_cons,List.foldl_append,List.foldl_nil]at this⊢
     exact this
    ·by_cases c0:k x=0
     ·have hB0:B=[]:=by
       cases B with
       |nil=>rfl
       |cons b B=>have:=hlt b (by simp);have:=hN.pos b;omega
      subst hB0
      exact⟨A++[r],[],P++R++[x],[],by simp,by simp,List.Sublist.refl _,List.Pairwise.nil,by simp,.inr ⟨A,r,rfl,hr0⟩⟩
     ·refine⟨A++[r],B,P,R++[x],by simp,by simp,h2.trans (List.sublist_append_left _ _),xS.last ho c0 h3,fun b hb=>?_,.inr ⟨A,r,rfl,hr0⟩⟩
      rcases List.mem_append.1 hb with hb|hb
      ·exact h4 b hb
      ·obtain rfl:=List.mem_singleton.1 hb;exact⟨c0,hx⟩
  ·exact hpush
theorem ziq {k:Int→Int} {full:Int→List Int} {mk:Int→Int→Option Int}(hN:zk3 k full mk):∀(n:Nat) (d:List Int),d.length=n→xS k d→(∀x∈d,full x=[x])→YM k full (ZK k mk d) d:=by
 intro n
 induction n with
 |zero=>
  intro d h _ _
  rw[List.eq_nil_of_length_eq_zero h]
  exact⟨rfl,[],[],[],[],rfl,rfl,List.Sublist.refl _,List.Pairwise.nil,by simp,.inl rfl⟩
 |succ n ih=>
  intro d h ho hf
  rcases List.eq_nil_or_concat d with e|⟨d',y,e⟩
  ·subst e;simp at h
  ·rw[List.concat_eq_append]at e
   subst e
   rw[vT]
   exact(ih d' (by simpa using h) ho.init (fun x hx=>hf x (by simp[hx]))).step hN (hf y (by simp)) ho
theorem zhP {k:Int→Int} {full:Int→List Int} {mk:Int→Int→Option Int}(hN:zk3 k full mk)(l:List Int):jU k ((ZK k mk (jU k (l.flatMap full))).flatMap full)=jU k (l.flatMap full):=
 (ziq hN _ _ rfl (ziO k _) (fun x hx=>by
  obtain⟨y,_,hy⟩:=List.mem_flatMap.1 (zdh _ hx)
  exact hN.whole y x hy)).nfd
end Go.Proofs.YthbmelihnabkaaaGreat
end
section
namespace Go.Proofs.YthbmelihnabkaaaGreat
open Go.AM
set_option maxHeartbeats 1000000
set_option maxRecDepth 100000
def jq:List Row:=yA 2
def zlv:Bool:=jq.all fun w=>decide (w.f=w.t)&&(decide (w.t<4352) || decide (4546<w.f))&&decide (z6 jq 8 w.f=(z6 jq 8 w.a++if w.b=0 then []else z6 jq 8 w.b))&&(z6 jq 8 w.f).all fun y=>decide (z6 jq 8 y=[y])
theorem zem:zlv=true:=by decide+kernel
attribute [local irreducible] za
theorem zdX(r:Int):rowAt jq 2 r=rowAt za 2 r:=by
 unfold rowAt jq yA
 split
 ·rfl
 ·rw[List.find?_filter]
  congr 1
  funext x
  unfold jC
  simp
  intro a b c;exact a
theorem Kh(r:Int):Za jq r=Za za r:=by unfold Za;rw[zdX]
theorem Wv:∀(d:Nat) (r:Int),z6 jq d r=z6 za d r
 |0,_=>rfl
 |d+1,r=>by
  unfold z6
  rw[Kh]
  split
  ·rfl
  ·cases Za za r with
   |none=>rfl
   |some p=>simp only;rw[Wv d p.1,Wv d p.2]
theorem Jf {w:Row}(h:w∈za)(hk:w.k=2):w.f=w.t∧(w.t<4352∨4546<w.f)∧z6 za 8 w.f=(z6 za 8 w.a++if w.b=0 then []else z6 za 8 w.b)∧∀y∈z6 za 8 w.f,z6 za 8 y=[y]:=by
 have f:=List.all_eq_true.1 zem w (List.mem_filter.2 ⟨h,by simp[hk]⟩)
 simp only[Bool.and_eq_true,Bool.or_eq_true,decide_eq_true_eq,List.all_eq_true,Wv]at f
 exact⟨f.1.1.1,f.1.1.2,f.1.2,f.2⟩
theorem zhQ {r:Int}(h:4352≤r∧r≤4546):Za za r=none:=by
 unfold Za
 cases hr:rowAt za 2 r with
 |none=>rfl
 |some w=>
  exfalso
  unfold rowAt at hr
  split at hr
  ·cases hr
  ·have h1:=List.mem_of_find?_eq_some hr
   have h2:=List.find?_some hr
   simp only[jC,Bool.and_eq_true,decide_eq_true_eq]at h2
   have:=Jf h1 h2.1.1
   omega
theorem WU(r:Int):Zc r=true↔44032≤r∧r<55204:=by simp[Zc]
theorem uk {r:Int}(h:4352≤r∧r≤4546):z6 za 8 r=[r]:=by
 have hs:Zc r=false:=by
  cases e:Zc r with
  |false=>rfl
  |true=>have:=(WU r).1 e;omega
 unfold z6
 rw[hs,zhQ h];rfl
theorem W5 {r:Int}(h:Zc r=true):z6 za 8 r=zQ r:=by unfold z6;rw[if_pos h]
theorem zj4 {r:Int}(h:Zc r=true):∀y∈zQ r,4352≤y∧y≤4546:=by
 have hr:=(WU r).1 h
 intro y hy
 unfold zQ at hy
 split at hy
 ·simp only[List.mem_cons,List.not_mem_nil,or_false]at hy;omega
 ·simp only[List.mem_cons,List.not_mem_nil,or_false]at hy;omega
theorem zeV(x:Int):∀y∈z6 za 8 x,z6 za 8 y=[y]:=by
 cases hs:Zc x with
 |true=>
  rw[W5 hs]
  exact fun y hy=>uk (zj4 hs y hy)
 |false=>
  cases hp:Za za x with
  |none=>
   have e:z6 za 8 x=[x]:=by unfold z6;rw[hs,hp];rfl
   rw[e]
   intro y hy
   obtain rfl:=List.mem_singleton.1 hy
   exact e
  |some p=>
   unfold Za at hp
   cases hr:rowAt za 2 x with
   |none=>rw[hr]at hp;cases hp
   |some w=>
    unfold rowAt at hr
    split at hr
    ·cases hr
    ·have h1:=List.mem_of_find?_eq_some hr
     have h2:=List.find?_some hr
     simp only[jC,Bool.and_eq_true,decide_eq_true_eq]at h2
     have:=Jf h1 h2.1.1
     have e:x=w.f:=by omega
     rw[e];exact this.2.2.2
theorem zg1 {a b c:Int}(h:zT a b=some c):z6 za 8 c=z6 za 8 a++z6 za 8 b:=by
 unfold zT at h
 split at h
 ·rename_i g
  injection h with h
  have hs:Zc c=true:=(WU c).2 (by omega)
  rw[W5 hs,uk (r:=a) (by omega),uk (r:=b) (by omega)]
  unfold zQ
  rw[if_pos (by omega)]
  have e1:4352+(c-44032)/588=a:=by omega
  have e2:4449+(c-44032)/28%21=b:=by omega
  rw[e1,e2];rfl
 ·split at h
  ·rename_i g
   injection h with h
   have ha:=(WU a).1 g.1
   have hs:Zc c=true:=(WU c).2 (by omega)
   rw[W5 hs,W5 g.1,uk (r:=b) (by omega)]
   unfold zQ
   rw[if_neg (by omega),if_pos g.2.1]
   have e1:(c-44032)/588=(a-44032)/588:=by omega
   have e2:(c-44032)/28=(a-44032)/28:=by omega
   have e3:4519+(c-44032)%28=b:=by omega
   rw[e1,e2,e3];rfl
  ·cases h
theorem zn2:zk3 (kD za) (z6 za 8) (mkD za)where
 pos:=zkg
 whole:=zeV
 start:=zjp
 pair a b c h:=by
  unfold mkD at h
  cases hj:zT a b with
  |some z=>
   rw[hj]at h
   simp only[Option.some_or,Option.some.injEq]at h
   subst h
   exact zg1 hj
  |none=>
   rw[hj,Option.none_or,UF]at h
   have hm:=zaU h
   obtain⟨w,hw,hc⟩:=List.mem_filterMap.1 hm
   unfold wI at hc
   split at hc
   ·rename_i g
    injection hc with hc
    injection hc with h1 h2
    injection h1 with h3 h4
    have:=(Jf hw g.1).2.2.1
    rw[if_neg g.2.1,h2,h3,h4]at this
    exact this
   ·cases hc
theorem zax(l:List Int):qN za (qN za l)=qN za l:=by
 have h:ZO za (qN za l)=ZO za l:=zhP zn2 l
 have e:∀x,qN za x=Vv za (ZO za x):=fun _=>rfl
 rw[e (qN za l),h];rfl
end Go.Proofs.YthbmelihnabkaaaGreat
end
section
namespace Go.Proofs.YthbmelihnabkaaaGreat
open Go.AM
set_option maxHeartbeats 1000000
set_option maxRecDepth 100000
def znh:Bool:=(yA 2).all fun w=>decide (w.f=w.t)&&decide ((z6 za 8 w.f).length≤3)
theorem zha:znh=true:=by decide+kernel
attribute [local irreducible] za
theorem zbN(r:Int):(zQ r).length≤3:=by unfold zQ;split<;>simp
theorem zfs(r:Int):(z6 za 8 r).length≤3:=by
 by_cases hs:Zc r=true
 ·unfold z6;rw[if_pos hs];exact zbN r
 ·cases hp:Za za r with
  |none=>unfold z6;rw[if_neg hs,hp];simp
  |some p=>
   unfold Za at hp
   cases hr:rowAt za 2 r with
   |none=>rw[hr]at hp;simp at hp
   |some w=>
    unfold rowAt at hr
    split at hr
    ·simp at hr
    ·have h1:=List.mem_of_find?_eq_some hr
     have h2:=List.find?_some hr
     simp only[jC,Bool.and_eq_true,decide_eq_true_eq]at h2
     have f:=List.all_eq_true.1 zha w (List.mem_filter.2 ⟨h1,by simp[h2.1.1]⟩)
     simp only[Bool.and_eq_true,decide_eq_true_eq]at f
     have:r=w.f:=by omega
     rw[this];exact f.2
theorem Ke(l:List Int):(ZV za l).length≤3*l.length:=by
 unfold ZV
 induction l with
 |nil=>simp
 |cons r l ih=>
  have:=zfs r
  rw[List.flatMap_cons,List.length_append,List.length_cons]
  omega
end Go.Proofs.YthbmelihnabkaaaGreat
end
