/- A part of the proof of this seat's statements, by an abstract machine: what each operation does to values, and what the law's functions compute. Conditions: as each law says. -/
import Derived.Test.YthbmelihnabkaaaGreatT37
import Derived.Test.YthbmelihnabkaaaGreatT16
import Derived.ScopeJumps
section
namespace Go.Proofs.YthbmelihnabkaaaGreat
open Go.AM
set_option maxHeartbeats 4000000
set_option maxRecDepth 100000
theorem atJ(i:Int):∀(l init:List Span) (o:Span),qS (o::l)→(atL (vL init o l) i).map (·.a)=(atL (init++o::l) i).map (·.a)
 | [],_,_,_=>rfl
 |s::l,init,o,h=>by
  obtain⟨h1,h2,h3,h4,h5⟩:=h
  unfold vL
  by_cases c:o.t+1=s.f∧o.a=s.a∧o.b=s.b
  ·rw[if_pos c,atJ i l init {o with t:=s.t} ⟨show o.f≤s.t by omega,h4,h5⟩]
   unfold atL
   rw[List.find?_append,List.find?_append]
   cases init.find? (fun s=>decide (s.f≤i∧i≤s.t))with
   |some x=>rfl
   |none=>
    simp only[Option.none_or,List.find?_cons]
    by_cases q1:o.f≤i∧i≤o.t
    ·have e1:decide (o.f≤i∧i≤s.t)=true:=decide_eq_true ⟨q1.1,by omega⟩
     have e2:decide (o.f≤i∧i≤o.t)=true:=decide_eq_true q1
     rw[e1,e2];rfl
    ·have e2:decide (o.f≤i∧i≤o.t)=false:=decide_eq_false q1
     rw[e2]
     by_cases q2:s.f≤i∧i≤s.t
     ·have e1:decide (o.f≤i∧i≤s.t)=true:=decide_eq_true ⟨by omega,q2.2⟩
      have e3:decide (s.f≤i∧i≤s.t)=true:=decide_eq_true q2
      rw[e1,e3]
      exact congrArg some c.2.1
     ·have e1:decide (o.f≤i∧i≤s.t)=false:=decide_eq_false (by omega)
      have e3:decide (s.f≤i∧i≤s.t)=false:=decide_eq_false q2
      rw[e1,e3]
  ·rw[if_neg c,atJ i l (init++[o]) s ⟨h3,h4,h5⟩]
   simp
theorem zdG(l:List Span)(c:Int):qK l c=decide ((atL l c).map (·.a)=some 1):=by
 unfold qK
 cases atL l c with
 |none=>rfl
 |some s=>simp only[Option.map_some,Option.some.injEq];rfl
theorem zlH(c:Int)(l:List Span)(h:qS l):qK (ZY l) c=qK l c:=by
 cases l with
 |nil=>rfl
 |cons s l=>
  rw[zdG,zdG]
  exact congrArg (fun x=>decide (x=some 1)) (atJ c l [] s h)
theorem zld(r:Int):(T0.flg (rn r)).l=decide (aL za 8 r=1):=by
 by_cases h:0≤r∧r≤1114111
 ·have e:(T0.flg (rn r)).l=qK (qg za 8) r:=by
   rw[uH (by omega)];exact congrArg (qK (qg za 8)) (Int.toNat_of_nonneg h.1)
  rw[e,uo _ _ _ h]
  unfold qg
  rw[zlH _ _ (ja zot).rise]
  unfold qK spA
  cases atL (zK za 8) r with
  |none=>rfl
  |some s=>simp only;rfl
 ·rw[xd (by omega),VX _ _ _ h,Z7.f];rfl
attribute [local irreducible] za
def QX(L:List (List Int))(i:Nat):Bool:=decide (aL za 8 (((L[i]?).getD [])[0]?.getD 0)=1)
structure zlx(L:List (List Int)):Prop where
 n:L.length<2^31
 r:∀c∈L,∃x c',c=x::c'∧zD x
def bkW(L:List (List Int))(q:Bool):Nat→Nat
 |0=>0
 |p+1=>if QX L p=q then bkW L q p else p+1
def fwW(L:List (List Int))(q:Bool):Nat→Nat→Nat
 |0,p=>p
 |n+1,p=>if QX L p=q then fwW L q n (p+1)else p
end Go.Proofs.YthbmelihnabkaaaGreat
end
section
namespace Go.Proofs.YthbmelihnabkaaaGreat
open Go.AM
set_option maxHeartbeats 4000000
set_option maxRecDepth 10000
attribute [local irreducible] za
theorem zf5(rows:List Row):∀(n:Nat) (pre l:List Int),∀c∈ZP rows n pre l,∃x c',c=x::c'
 |0,_,_,c,h=>by simp[ZP]at h
 |_+1,_,[],c,h=>by simp[ZP]at h
 |n+1,pre,x::l,c,h=>by
  rw[ZP]at h
  rcases List.mem_cons.1 h with rfl|h
  ·exact⟨_,_,rfl⟩
  ·exact zf5 rows n _ _ c h
theorem JA(l:List Int)(hn:l.length<2^31)(hr:∀x∈l,zD x):zlx (z8 za l)where
 n:=by have:=kj.num l;omega
 r c hc:=by
  obtain⟨x,c',rfl⟩:=zf5 za _ _ _ c hc
  refine⟨x,c',rfl,hr x ?_⟩
  have:x∈(z8 za l).flatten:=List.mem_flatten.2 ⟨_,hc,by simp⟩
  rw[kj.flat]at this
  exact this
end Go.Proofs.YthbmelihnabkaaaGreat
end
section
namespace Go.Proofs.YthbmelihnabkaaaGreat
open Go.AM
set_option maxHeartbeats 1000000
def zka(k:Int→Int):List Int→Prop
 | []=>True
 |x::l=>(k x=0∨∀y l',l=y::l'→k y≤k x)∧zka k l
def xw(k:Int→Int)(l:List Int):Prop:=zka k l.reverse
theorem KO {k:Int→Int} {x:Int} {l:List Int}(h:k x=0∨∀y l',l=y::l'→k y≤k x):zV k x l=x::l:=by
 cases l with
 |nil=>rfl
 |cons y l=>
  rw[zV,if_neg]
  rintro⟨h1,h2⟩
  rcases h with h|h
  ·exact h1 h
  ·have:=h y l rfl;omega
theorem J7 {k:Int→Int}(x:Int):∀l,zka k l→zka k (zV k x l)
 | [],_=>⟨.inr (by simp),trivial⟩
 |y::l,h=>by
  unfold zV
  split
  ·rename_i c
   refine⟨?_,J7 x l h.2⟩
   cases l with
   |nil=>right;intro z l' e;rw[zV]at e;injection e with e1 _;subst e1;omega
   |cons z l=>
    rcases h.1 with h1|h1
    ·exact .inl h1
    ·right
     intro u l' e
     have h2:=h1 z l rfl
     unfold zV at e
     split at e
     ·injection e with e1 _;subst e1;exact h2
     ·injection e with e1 _;subst e1;omega
  ·rename_i c
   refine⟨?_,h⟩
   by_cases c0:k x=0
   ·exact .inl c0
   ·right
    intro z l' e
    injection e with e1 _
    subst e1
    rcases Int.lt_or_le (k x) (k y)with q|q
    ·exact absurd ⟨c0,q⟩ c
    ·exact q
theorem JF(k:Int→Int)(O:List Int)(x:Int):(Qc k O x).reverse=zV k x O.reverse:=by simp[Qc]
theorem ziH {k:Int→Int} {O:List Int}(h:xw k O)(x:Int):xw k (Qc k O x):=by
 unfold xw
 rw[JF]
 exact J7 x _ h
theorem Xm {k:Int→Int}:∀(l O:List Int),xw k O→xw k (l.foldl (Qc k) O)
 | [],_,h=>h
 |x::l,_,h=>Xm l _ (ziH h x)
theorem zjp(k:Int→Int)(l:List Int):xw k (Q4 k l):=Xm l [] trivial
theorem Y9 {k:Int→Int} {p:List Int} {x:Int}(h:xw k (p++[x])):Qc k p x=p++[x]:=by
 unfold xw at h
 rw[List.reverse_append,List.reverse_singleton,List.singleton_append]at h
 have:=KO h.1
 unfold Qc
 rw[this]
 simp
theorem xw.init {k:Int→Int} {p:List Int} {x:Int}(h:xw k (p++[x])):xw k p:=by
 unfold xw at h⊢
 rw[List.reverse_append]at h
 exact h.2
theorem UT {k:Int→Int} {x b:Int}(h0:k b≠0)(h1:k b<k x)(hp:0≤k b):∀l,zV k b (zV k x l)=zV k x (zV k b l)
 | []=>by
  simp only[zV]
  rw[if_pos ⟨h0,h1⟩,if_neg (by omega)]
 |y::l=>by
  by_cases c:k x<k y
  ·have e1:zV k x (y::l)=y::zV k x l:=by rw[zV,if_pos ⟨by omega,c⟩]
   have e2:zV k b (y::l)=y::zV k b l:=by rw[zV,if_pos ⟨h0,by omega⟩]
   have e3:∀m,zV k b (y::m)=y::zV k b m:=fun m=>by rw[zV,if_pos ⟨h0,by omega⟩]
   have e4:∀m,zV k x (y::m)=y::zV k x m:=fun m=>by rw[zV,if_pos ⟨by omega,c⟩]
   rw[e1,e2,e3,e4,UT h0 h1 hp l]
  ·have e1:zV k x (y::l)=x::y::l:=by rw[zV,if_neg (by omega)]
   rw[e1]
   have e2:zV k b (x::y::l)=x::zV k b (y::l):=by rw[zV,if_pos ⟨h0,h1⟩]
   rw[e2]
   have e3:∃z m,zV k b (y::l)=z::m∧k z≤k x:=by
    unfold zV
    split
    ·exact⟨y,_,rfl,by omega⟩
    ·exact⟨b,_,rfl,by omega⟩
   obtain⟨z,m,e4,e5⟩:=e3
   rw[e4,zV,if_neg (by omega)]
theorem zhl {k:Int→Int} {x b:Int}(h0:k b≠0)(h1:k b<k x)(hp:0≤k b)(O:List Int):Qc k (Qc k O x) b=Qc k (Qc k O b) x:=by
 have e:∀A y,Qc k A y=(zV k y A.reverse).reverse:=fun _ _=>rfl
 rw[e (Qc k O x),JF,e (Qc k O b),JF,UT h0 h1 hp]
theorem J0 {k:Int→Int} {x:Int}:∀(B O:List Int),(∀b∈B,k b≠0∧k b<k x∧0≤k b)→(x::B).foldl (Qc k) O=(B++[x]).foldl (Qc k) O
 | [],_,_=>rfl
 |b::B,O,h=>by
  obtain⟨h0,h1,h2⟩:=h b (by simp)
  rw[List.foldl_cons,List.foldl_cons,zhl h0 h1 h2,List.cons_append,List.foldl_cons,←J0 B (Qc k O b) (fun c hc=>h c (List.mem_cons_of_mem _ hc)),List.foldl_cons]
structure zlk(k:Int→Int)(full:Int→List Int)(mk:Int→Int→Option Int):Prop where
 pos:∀x,0≤k x
 whole:∀x,∀y∈full x,full y=[y]
 pair:∀a b c,mk a b=some c→full c=full a++full b
 start:∀a b c,mk a b=some c→k c=0
theorem zbD {k:Int→Int}:∀(n:Nat) (B:List Int),B.length=n→(∀b∈B,k b≠0)→zM k B= -1:=by
 intro n
 induction n with
 |zero=>intro B h _;rw[List.eq_nil_of_length_eq_zero h];rfl
 |succ n ih=>
  intro B h hb
  rcases List.eq_nil_or_concat B with e|⟨B',y,e⟩
  ·subst e;simp at h
  ·rw[List.concat_eq_append]at e
   subst e
   rw[qX,if_neg (hb y (by simp))]
   exact ih B' (by simpa using h) (fun b hb'=>hb b (by simp[hb']))
theorem zgW {k:Int→Int} {A:List Int} {s:Int}(hs:k s=0):∀(n:Nat) (B:List Int),B.length=n→(∀b∈B,k b≠0)→zM k (A++s::B)=A.length:=by
 intro n
 induction n with
 |zero=>
  intro B h _
  rw[List.eq_nil_of_length_eq_zero h,qX,if_pos hs]
 |succ n ih=>
  intro B h hb
  rcases List.eq_nil_or_concat B with e|⟨B',y,e⟩
  ·subst e;simp at h
  ·rw[List.concat_eq_append]at e
   subst e
   have e2:A++s::(B'++[y])=(A++s::B')++[y]:=by simp
   rw[e2,qX,if_neg (hb y (by simp))]
   exact ih B' (by simpa using h) (fun b hb'=>hb b (by simp[hb']))
structure YA(k:Int→Int)(full:Int→List Int)(O p:List Int):Prop where
 nfd:Q4 k (O.flatMap full)=p
 tail:∃(T B P R:List Int),O=T++B∧p=P++R∧B.Sublist R∧R.Pairwise (fun a b=>k a≤k b)∧(∀b∈R,k b≠0∧full b=[b])∧(T=[]∨∃A s,T=A++[s]∧k s=0)
theorem xw.last {k:Int→Int} {P R:List Int} {x:Int}(h:xw k (P++R++[x]))(hx:k x≠0)(hR:R.Pairwise fun a b=>k a≤k b):(R++[x]).Pairwise fun a b=>k a≤k b:=by
 rw[List.pairwise_append]
 refine⟨hR,by simp,fun a ha b hb=>?_⟩
 obtain rfl:=List.mem_singleton.1 hb
 rcases List.eq_nil_or_concat R with e|⟨R',y,e⟩
 ·subst e;simp at ha
 ·rw[List.concat_eq_append]at e
  subst e
  unfold xw at h
  rw[List.reverse_append,←List.append_assoc,List.reverse_append]at h
  have h1:k y≤k b:=(h.1.resolve_left hx) y _ rfl
  rcases List.mem_append.1 ha with ha|ha
  ·have:=(List.pairwise_append.1 hR).2.2 a ha y (by simp);omega
  ·obtain rfl:=List.mem_singleton.1 ha;exact h1
theorem YA.push {k:Int→Int} {full:Int→List Int} {O p:List Int}(h:YA k full O p) {x:Int}(hx:full x=[x])(ho:xw k (p++[x])):YA k full (O++[x]) (p++[x]):=by
 obtain⟨h1,T,B,P,R,rfl,rfl,h2,h3,h4,h5⟩:=h
 constructor
 ·rw[List.flatMap_append,List.flatMap_singleton,hx,Un,h1,Y9 ho]
 ·by_cases c:k x=0
  ·exact⟨T++B++[x],[],P++R++[x],[],by simp,by simp,List.Sublist.refl _,List.Pairwise.nil,by simp,.inr ⟨T++B,x,rfl,c⟩⟩
  ·refine⟨T,B++[x],P,R++[x],by simp,by simp,List.Sublist.append h2 (List.Sublist.refl _),xw.last ho c h3,fun b hb=>?_,h5⟩
   rcases List.mem_append.1 hb with hb|hb
   ·exact h4 b hb
   ·obtain rfl:=List.mem_singleton.1 hb;exact⟨c,hx⟩
theorem YA.step {k:Int→Int} {full:Int→List Int} {mk:Int→Int→Option Int}(hN:zlk k full mk) {O p:List Int}(h:YA k full O p) {x:Int}(hx:full x=[x])(ho:xw k (p++[x])):YA k full (Z6 k mk O x) (p++[x]):=by
 have hpush:=h.push hx ho
 obtain⟨h1,T,B,P,R,rfl,rfl,h2,h3,h4,h5⟩:=h
 have hB:∀b∈B,k b≠0:=fun b hb=>(h4 b (h2.subset hb)).1
 unfold Z6
 rcases h5 with rfl|⟨A,s,rfl,hs⟩
 ·rw[if_neg]
  ·exact hpush
  ·rintro⟨q,_⟩
   rw[List.nil_append,zbD B.length B rfl hB]at q
   omega
 ·have e1:A++[s]++B=A++s::B:=by simp
  have hst:zM k (A++[s]++B)=A.length:=by rw[e1];exact zgW hs B.length B rfl hB
  rw[hst]
  split
  ·rename_i c
   have hg:(A++[s]++B)[(A.length:Int).toNat]?.getD 0=s:=by simp
   rw[hg]
   cases hm:mk s x with
   |none=>exact hpush
   |some r=>
    have hr:=hN.pair _ _ _ hm
    have hr0:=hN.start _ _ _ hm
    have hset:(A++[s]++B).set (A.length:Int).toNat r=A++[r]++B:=by
     rw[Int.toNat_natCast,e1,List.set_append_right _ _ (Nat.le_refl _),Nat.sub_self];simp
    simp only
    rw[hset]
    -- all that stands behind is less
    have hlt:∀b∈B,k b<k x:=by
     have hf:=c.2
     unfold wV at hf
     simp only[Bool.or_eq_true,decide_eq_true_eq]at hf
     rcases hf with hf|hf
     ·have:B=[]:=by
       simp only[List.length_append,List.length_singleton]at hf
       exact List.eq_nil_of_length_eq_zero (by omega)
      subst this;simp
     ·intro b hb
      rcases List.eq_nil_or_concat B with e|⟨B',y,e⟩
      ·subst e;simp at hb
      ·rw[List.concat_eq_append]at e
       subst e
       have hy:(A++[s]++(B'++[y]))[(A++[s]++(B'++[y])).length-1]?.getD 0=y:=by
        rw[←List.append_assoc];simp
       rw[hy]at hf
       have hp:=h3.sublist h2
       rcases List.mem_append.1 hb with hb|hb
       ·have:=(List.pairwise_append.1 hp).2.2 b hb y (by simp);omega
       ·obtain rfl:=List.mem_singleton.1 hb;exact hf
    have hfB:B.flatMap full=B:=by
     have:∀l:List Int,(∀b∈l,full b=[b])→l.flatMap full=l:=by
      intro l
      induction l with
      |nil=>intro _;rfl
      |cons b l ih=>intro hl;rw[List.flatMap_cons,hl b (by simp),ih (fun c hc=>hl c (List.mem_cons_of_mem _ hc))];rfl
     exact this B fun b hb=>(h4 b (h2.subset hb)).2
    constructor
    ·rw[←Y9 ho,←h1,List.flatMap_append,List.flatMap_append,List.flatMap_singleton,hr,hx,hfB,List.flatMap_append,List.flatMap_append,List.flatMap_singleton,hfB]
     rw[←Un]
     unfold Q4
     have:=J0 (k:=k) (x:=x) B (List.foldl (Qc k) [] (A.flatMap full++full s)) (fun b hb=>⟨hB b hb,hlt b hb,hN.pos b⟩)
     simp only[List.foldl_cons,List.foldl_append,List.foldl_nil]at this⊢
     exact this
    ·by_cases c0:k x=0
     ·have hB0:B=[]:=by
       cases B with
       |nil=>rfl
       |cons b B=>have:=hlt b (by simp);have:=hN.pos b;omega
      subst hB0
      exact⟨A++[r],[],P++R++[x],[],by simp,by simp,List.Sublist.refl _,List.Pairwise.nil,by simp,.inr ⟨A,r,rfl,hr0⟩⟩
     ·refine⟨A++[r],B,P,R++[x],by simp,by simp,h2.trans (List.sublist_append_left _ _),xw.last ho c0 h3,fun b hb=>?_,.inr ⟨A,r,rfl,hr0⟩⟩
      rcases List.mem_append.1 hb with hb|hb
      ·exact h4 b hb
      ·obtain rfl:=List.mem_singleton.1 hb;exact⟨c0,hx⟩
  ·exact hpush
theorem zgN {k:Int→Int} {full:Int→List Int} {mk:Int→Int→Option Int}(hN:zlk k full mk):∀(n:Nat) (d:List Int),d.length=n→xw k d→(∀x∈d,full x=[x])→YA k full (Ze k mk d) d:=by
 intro n
 induction n with
 |zero=>
  intro d h _ _
  rw[List.eq_nil_of_length_eq_zero h]
  exact⟨rfl,[],[],[],[],rfl,rfl,List.Sublist.refl _,List.Pairwise.nil,by simp,.inl rfl⟩
 |succ n ih=>
  intro d h ho hf
  rcases List.eq_nil_or_concat d with e|⟨d',y,e⟩
  ·subst e;simp at h
  ·rw[List.concat_eq_append]at e
   subst e
   rw[vM]
   exact(ih d' (by simpa using h) ho.init (fun x hx=>hf x (by simp[hx]))).step hN (hf y (by simp)) ho
theorem Xk {k:Int→Int} {full:Int→List Int} {mk:Int→Int→Option Int}(hN:zlk k full mk)(l:List Int):Q4 k ((Ze k mk (Q4 k (l.flatMap full))).flatMap full)=Q4 k (l.flatMap full):=
 (zgN hN _ _ rfl (zjp k _) (fun x hx=>by
  obtain⟨y,_,hy⟩:=List.mem_flatMap.1 (zb9 _ hx)
  exact hN.whole y x hy)).nfd
end Go.Proofs.YthbmelihnabkaaaGreat
end
section
namespace Go.Proofs.YthbmelihnabkaaaGreat
open Go.AM
set_option maxHeartbeats 1000000
set_option maxRecDepth 100000
def Q3:List Row:=kT 2
def zkG:Bool:=Q3.all fun w=>decide (w.f=w.t)&&(decide (w.t<4352) || decide (4546<w.f))&&decide (z5 Q3 8 w.f=(z5 Q3 8 w.a++if w.b=0 then []else z5 Q3 8 w.b))&&(z5 Q3 8 w.f).all fun y=>decide (z5 Q3 8 y=[y])
theorem zfd:zkG=true:=by decide+kernel
attribute [local irreducible] za
theorem zda(r:Int):rowAt Q3 2 r=rowAt za 2 r:=by
 unfold rowAt Q3 kT
 split
 ·rfl
 ·rw[List.find?_filter]
  congr 1
  funext x
  unfold jt
  simp
  intro a b c;exact a
theorem UM(r:Int):qY Q3 r=qY za r:=by unfold qY;rw[zda]
theorem uZ:∀(d:Nat) (r:Int),z5 Q3 d r=z5 za d r
 |0,_=>rfl
 |d+1,r=>by
  unfold z5
  rw[UM]
  split
  ·rfl
  ·cases qY za r with
   |none=>rfl
   |some p=>simp only;rw[uZ d p.1,uZ d p.2]
theorem K5 {w:Row}(h:w∈za)(hk:w.k=2):w.f=w.t∧(w.t<4352∨4546<w.f)∧z5 za 8 w.f=(z5 za 8 w.a++if w.b=0 then []else z5 za 8 w.b)∧∀y∈z5 za 8 w.f,z5 za 8 y=[y]:=by
 have f:=List.all_eq_true.1 zfd w (List.mem_filter.2 ⟨h,by simp[hk]⟩)
 simp only[Bool.and_eq_true,Bool.or_eq_true,decide_eq_true_eq,List.all_eq_true,uZ]at f
 exact⟨f.1.1.1,f.1.1.2,f.1.2,f.2⟩
theorem zhQ {r:Int}(h:4352≤r∧r≤4546):qY za r=none:=by
 unfold qY
 cases hr:rowAt za 2 r with
 |none=>rfl
 |some w=>
  exfalso
  unfold rowAt at hr
  split at hr
  ·cases hr
  ·have h1:=List.mem_of_find?_eq_some hr
   have h2:=List.find?_some hr
   simp only[jt,Bool.and_eq_true,decide_eq_true_eq]at h2
   have:=K5 h1 h2.1.1
   omega
theorem WQ(r:Int):q8 r=true↔44032≤r∧r<55204:=by simp[q8]
theorem vV {r:Int}(h:4352≤r∧r≤4546):z5 za 8 r=[r]:=by
 have hs:q8 r=false:=by
  cases e:q8 r with
  |false=>rfl
  |true=>have:=(WQ r).1 e;omega
 unfold z5
 rw[hs,zhQ h];rfl
theorem W8 {r:Int}(h:q8 r=true):z5 za 8 r=zO r:=by unfold z5;rw[if_pos h]
theorem ziV {r:Int}(h:q8 r=true):∀y∈zO r,4352≤y∧y≤4546:=by
 have hr:=(WQ r).1 h
 intro y hy
 unfold zO at hy
 split at hy
 ·simp only[List.mem_cons,List.not_mem_nil,or_false]at hy;omega
 ·simp only[List.mem_cons,List.not_mem_nil,or_false]at hy;omega
theorem zfc(x:Int):∀y∈z5 za 8 x,z5 za 8 y=[y]:=by
 cases hs:q8 x with
 |true=>
  rw[W8 hs]
  exact fun y hy=>vV (ziV hs y hy)
 |false=>
  cases hp:qY za x with
  |none=>
   have e:z5 za 8 x=[x]:=by unfold z5;rw[hs,hp];rfl
   rw[e]
   intro y hy
   obtain rfl:=List.mem_singleton.1 hy
   exact e
  |some p=>
   unfold qY at hp
   cases hr:rowAt za 2 x with
   |none=>rw[hr]at hp;cases hp
   |some w=>
    unfold rowAt at hr
    split at hr
    ·cases hr
    ·have h1:=List.mem_of_find?_eq_some hr
     have h2:=List.find?_some hr
     simp only[jt,Bool.and_eq_true,decide_eq_true_eq]at h2
     have:=K5 h1 h2.1.1
     have e:x=w.f:=by omega
     rw[e];exact this.2.2.2
theorem zg3 {a b c:Int}(h:zS a b=some c):z5 za 8 c=z5 za 8 a++z5 za 8 b:=by
 unfold zS at h
 split at h
 ·rename_i g
  injection h with h
  have hs:q8 c=true:=(WQ c).2 (by omega)
  rw[W8 hs,vV (r:=a) (by omega),vV (r:=b) (by omega)]
  unfold zO
  rw[if_pos (by omega)]
  have e1:4352+(c-44032)/588=a:=by omega
  have e2:4449+(c-44032)/28%21=b:=by omega
  rw[e1,e2];rfl
 ·split at h
  ·rename_i g
   injection h with h
   have ha:=(WQ a).1 g.1
   have hs:q8 c=true:=(WQ c).2 (by omega)
   rw[W8 hs,W8 g.1,vV (r:=b) (by omega)]
   unfold zO
   rw[if_neg (by omega),if_pos g.2.1]
   have e1:(c-44032)/588=(a-44032)/588:=by omega
   have e2:(c-44032)/28=(a-44032)/28:=by omega
   have e3:4519+(c-44032)%28=b:=by omega
   rw[e1,e2,e3];rfl
  ·cases h
theorem zjF:zlk (kD za) (z5 za 8) (mkD za)where
 pos:=zdO
 whole:=zfc
 start:=zjc
 pair a b c h:=by
  unfold mkD at h
  cases hj:zS a b with
  |some z=>
   rw[hj]at h
   simp only[Option.some_or,Option.some.injEq]at h
   subst h
   exact zg3 hj
  |none=>
   rw[hj,Option.none_or,uq]at h
   have hm:=KE h
   obtain⟨w,hw,hc⟩:=List.mem_filterMap.1 hm
   unfold x8 at hc
   split at hc
   ·rename_i g
    injection hc with hc
    injection hc with h1 h2
    injection h1 with h3 h4
    have:=(K5 hw g.1).2.2.1
    rw[if_neg g.2.1,h2,h3,h4]at this
    exact this
   ·cases hc
theorem vS(l:List Int):qv za (qv za l)=qv za l:=by
 have h:jM za (qv za l)=jM za l:=Xk zjF l
 have e:∀x,qv za x=vY za (jM za x):=fun _=>rfl
 rw[e (qv za l),h];rfl
end Go.Proofs.YthbmelihnabkaaaGreat
end
section
namespace Go.Proofs.YthbmelihnabkaaaGreat
open Go.AM
set_option maxHeartbeats 1000000
set_option maxRecDepth 100000
def zmB:Bool:=(kT 2).all fun w=>decide (w.f=w.t)&&decide ((z5 za 8 w.f).length≤3)
theorem zgm:zmB=true:=by decide+kernel
attribute [local irreducible] za
theorem za8(r:Int):(zO r).length≤3:=by unfold zO;split<;>simp
theorem zer(r:Int):(z5 za 8 r).length≤3:=by
 by_cases hs:q8 r=true
 ·unfold z5;rw[if_pos hs];exact za8 r
 ·cases hp:qY za r with
  |none=>unfold z5;rw[if_neg hs,hp];simp
  |some p=>
   unfold qY at hp
   cases hr:rowAt za 2 r with
   |none=>rw[hr]at hp;simp at hp
   |some w=>
    unfold rowAt at hr
    split at hr
    ·simp at hr
    ·have h1:=List.mem_of_find?_eq_some hr
     have h2:=List.find?_some hr
     simp only[jt,Bool.and_eq_true,decide_eq_true_eq]at h2
     have f:=List.all_eq_true.1 zgm w (List.mem_filter.2 ⟨h1,by simp[h2.1.1]⟩)
     simp only[Bool.and_eq_true,decide_eq_true_eq]at f
     have:r=w.f:=by omega
     rw[this];exact f.2
theorem y9(l:List Int):(Zs za l).length≤3*l.length:=by
 unfold Zs
 induction l with
 |nil=>simp
 |cons r l ih=>
  have:=zer r
  rw[List.flatMap_cons,List.length_append,List.length_cons]
  omega
theorem zeR(l:List Int):(z8 za (qv za l)).length≤3*l.length:=by
 have h1:=kj.num (qv za l)
 have h2:=vU (kD za) (mkD za) (jM za l) []
 have h3:(jM za l).length=(Zs za l).length:=yy _ _
 have h4:=y9 l
 have h5:(qv za l).length=((jM za l).foldl (Z6 (kD za) (mkD za)) []).length:=rfl
 simp only[List.length_nil]at h2
 omega
end Go.Proofs.YthbmelihnabkaaaGreat
end
section
namespace Go.AM
def Sem [Gi](P:Program)(c:Code)(Q:Exit→St→Prop)(S:St):Prop:=∀(E:Ent) (g:Gh) (a:Act) (w:World),SR E S g a w→c.wp P (post E Q) a w
theorem Sem.of [Gi] {P:Program}(D:List Nat) {c:Code} {Q:Exit→St→Prop} {S:St}(hm:P.follows .mixedOrders=true)(h:wpA P D c Q S)(hok:Zk D c=true:=by rfl):Sem P c Q S:=
 fun _ _ _ _ hS=>ZU hm c hok h hS
def zi9 [Gi](P:Program)(y:Code)(Q:Exit→St→Prop):Exit→St→Prop:=fun e S=>match e with|.normal=>Sem P y Q S|e=>Q e S
@[go_sem] theorem zln [Gi] {P : Program} {y : Code} {Q : Exit → St → Prop} {S : St} : zi9 P y Q .normal S = Sem P y Q S := _root_.id rfl
@[go_sem] theorem znW [Gi] {P : Program} {y : Code} {Q : Exit → St → Prop} {S : St} : zi9 P y Q .ret S = Q .ret S := _root_.id rfl
theorem Sem.seq [Gi] {P:Program} {x y:Code} {Q:Exit→St→Prop} {S:St}(h:Sem P x (zi9 P y Q) S):Sem P (.seq x y) Q S:=by
 intro E g a w hS
 refine wp_seq (wp_mono (h E g a w hS) ?_)
 rintro e a' w' ⟨S',g',hq,hs⟩
 cases e with
 |normal=>exact hq E g' a' w' hs
 |_=>exact⟨S',g',hq,hs⟩
theorem Sem.kJ [Gi] {P:Program}(D:List Nat) {x y:Code} {Q:Exit→St→Prop} {S:St}(hm:P.follows .mixedOrders=true)(h:wpA P D x (zi9 P y Q) S)(hok:Zk D x=true:=by rfl):Sem P (.seq x y) Q S:=Sem.seq (Sem.of D hm h hok)
theorem Sem.mono [Gi] {P:Program} {c:Code} {Q Q':Exit→St→Prop} {S:St}(h:Sem P c Q S)(hq:∀e S',Q e S'→Q' e S'):Sem P c Q' S:=
 fun E g a w hS=>wp_mono (h E g a w hS) fun _ _ _ ⟨S',g',k,hs⟩=>⟨S',g',hq _ _ k,hs⟩
theorem Sem.label [Gi] {P:Program} {l:Nat} {y:Code} {Q:Exit→St→Prop} {S:St}(h:Sem P y Q S):Sem P (.seq (.label l) y) Q S:=by
 intro E g a w hS
 exact wp_seq (wp_label (h E g a w hS))
theorem Sem.goto [Gi] {P:Program} {l:Nat} {Q:Exit→St→Prop} {S:St}(h:Q (.goto l) S):Sem P (.goto l) Q S:=fun _ g _ _ hS=>wp_goto ⟨S,g,h,hS⟩
theorem Sem.skip [Gi] {P:Program} {Q:Exit→St→Prop} {S:St}(h:Q .normal S):Sem P .skip Q S:=fun _ g _ _ hS=>wp_skip ⟨S,g,h,hS⟩
theorem Sem.cond [Gi] {P:Program} {c:Operand} {x y:Code} {Q:Exit→St→Prop} {S:St}(b:Bool)(hc:S.ev c=.p (.bool b))(h:Sem P (if b then x else y) Q S):Sem P (.cond c x y) Q S:=by
 intro E g a w hS
 have hr:=hS.ev c
 rw[hc]at hr
 simp only[zb,zk]at hr
 cases b with
 |true=>exact wp_cond_true hr (h E g a w hS)
 |false=>exact wp_cond_false hr (h E g a w hS)
theorem Sem.clean [Gi] {P:Program} {c:Code} {Q:Exit→St→Prop} {S:St}(h:Sem P c Q {S with ts:=[]}):Sem P c Q S:=fun E g a w hS=>h E g a w hS.clean
theorem Sem.le [Gi] {P:Program} {c:Code} {Q:Exit→St→Prop} {S S1:St}(h:Sem P c Q S1)(hl:LeS S S1):Sem P c Q S:=fun E _ a w hS=>by
 obtain⟨g',h'⟩:=hS.le hl
 exact h E g' a w h'
def zof(Q:Exit→St→Prop):Exit→St→Prop:=fun e S=>match e with|.goto _=>False|e=>Q e S
@[go_sem] theorem zow {Q : Exit → St → Prop} {S : St} : zof Q .ret S = Q .ret S := _root_.id rfl
theorem Sem.scope [Gi] {P:Program} {c:Code} {Q:Exit→St→Prop} {S:St}(h:Sem P c (zof Q) S):Sem P (.scope c) Q S:=by
 intro E g a w hS
 refine wp_scope_straight (wp_mono (h E g a w hS) ?_)
 rintro e a' w' ⟨S',g',hq,hs⟩
 cases e with
 |goto l=>exact hq.elim
 |_=>exact⟨S',g',hq,hs⟩
def Yl {ι:Type}(l:Nat)(inv:ι→Prop)(st:ι→St)(Q:Exit→St→Prop):Exit→St→Prop:=fun e S=>match e with|.goto l'=>l'=l∧∃j,inv j∧LeS S (st j)|e=>Q e S
@[go_sem] theorem zne {ι : Type} {l : Nat} {inv : ι → Prop} {st : ι → St} {Q : Exit → St → Prop} {S : St} : Yl l inv st Q .ret S = Q .ret S := _root_.id rfl
theorem Sem.jumps [Gi] {P:Program} {c rest:Code} {Q:Exit→St→Prop} {S:St} {ι:Type}(l:Nat)(inv:ι→Prop)(st:ι→St)(m:ι→Nat)(hf:findLabel c l=some rest)
  (first:Sem P c (Yl l inv st Q) S) (pass:∀i,inv i→Sem P rest (Yl l (fun j=>inv j∧m j<m i) st Q) (st i)):Sem P (.scope c) Q S:=by
 intro E g a w hS
 let J:Act→World→Prop:=fun a w=>∃i g,inv i∧SR E (st i) g a w
 let M:Act→World→Nat→Prop:=fun a w n=>∃i g,inv i∧SR E (st i) g a w∧m i≤n
 have hM:∀a w,∃n,(∃k,M a w k)→M a w n∧∀k,M a w k→n≤k:=by
  intro a w
  by_cases h:∃k,M a w k
  ·obtain⟨k,hk⟩:=h
   induction k using Nat.strongRecOn with
   |_ k ih=>
    by_cases h2:∃k',k'<k∧M a w k'
    ·obtain⟨k',h3,h4⟩:=h2
     exact ih k' h3 h4
    ·refine⟨k,fun _=>⟨hk,fun k' hk'=>?_⟩⟩
     by_cases h3:k'<k
     ·exact absurd ⟨k',h3,hk'⟩ h2
     ·omega
  ·exact⟨0,fun h'=>absurd h' h⟩
 let μ:Act→World→Nat:=fun a w=>Classical.choose (hM a w)
 have hμ:∀a w,(∃k,M a w k)→M a w (μ a w)∧∀k,M a w k→μ a w≤k:=fun a w=>Classical.choose_spec (hM a w)
 refine wp_scope_jumps l J μ hf (wp_mono (first E g a w hS) ?_) ?_
 ·rintro e a' w' ⟨S',g',hq,hs⟩
  cases e with
  |goto l'=>
   obtain⟨rfl,j,hj,hl⟩:=hq
   obtain⟨g2,h2⟩:=hs.le hl
   exact⟨rfl,j,g2,hj,h2⟩
  |_=>exact⟨S',g',hq,hs⟩
 ·rintro a w ⟨i0,g0,hi0,hs0⟩
  obtain⟨⟨i,g1,hi,hs1,hle⟩,_⟩:=hμ a w ⟨m i0,i0,g0,hi0,hs0,Nat.le_refl _⟩
  refine wp_mono (pass i hi E g1 a w hs1) ?_
  rintro e a' w' ⟨S',g',hq,hs⟩
  cases e with
  |goto l'=>
   obtain⟨rfl,j,⟨hj,hlt⟩,hl⟩:=hq
   obtain⟨g2,h2⟩:=hs.le hl
   refine⟨rfl,⟨j,g2,hj,h2⟩,?_⟩
   have:=(hμ a' w' ⟨m j,j,g2,hj,h2,Nat.le_refl _⟩).2 (m j) ⟨j,g2,hj,h2,Nat.le_refl _⟩
   omega
  |_=>exact⟨S',g',hq,hs⟩
theorem VD [Gi] {P:Program} {f:FuncId} {fn:Func} {c:Code} {ts:List (Nat×Option TypeId)}(nv:Nat)(ex:List Nat)(hf:P.funcs[f]?=some fn)(hb:fn.body=some c)(rm:List Nat)
  (hres:vC fn.results.toList=some ts) {pin:List Tok} {args:List AV} {rs:List (Tok×List AV)} {R:AV→List (Tok×List AV)→Prop} (hnv:args.length≤nv) (hn:args.length≤fn.ntmps)
  (h:Sem P c (vB P pin ts R) {n:=fn.ntmps,nv:=nv,vs:=x9 0 args,ts:=[],rs:=rs,pin:=pin,ex:=ex,rm:=rm}):CR P f pin args rs R:=by
 intro w g vs hargs hG
 have hlen:vs.length=args.length:=by
  have h0:args.length≤nv:=hnv
  clear h0 h hnv hn
  induction args generalizing vs with
  |nil=>simp only[zo]at hargs;subst hargs;rfl
  |cons x xs ih=>simp only[zo]at hargs;obtain⟨v,vs',rfl,_,h2⟩:=hargs;simp[ih vs' h2]
 let E:Ent:=⟨w,g,hG.gl⟩
 have hS:SR E {n:=fn.ntmps,nv:=nv,vs:=x9 0 args,ts:=[],rs:=rs,pin:=pin,ex:=ex,rm:=rm} g {tmps:=vs.toArray++Array.replicate (fn.ntmps-vs.toArray.size) undef,defers:=[]} w:=by
  refine⟨by simp;omega,rfl,fun t=>?_,hG.roots,hG.ur,hG.ut,fun b hb=>⟨hG.own b hb,.inr hb⟩,fun b _=>⟨rfl,rfl⟩,Ext.refl _ _,⟨rfl,rfl,rfl⟩,Nat.le_refl _,hG.frb,fun b t hk _=>⟨hk,fun _ hn=>hn⟩⟩
  unfold St.get
  split
  ·simp only[xV,Nat.zero_le,if_true,Nat.sub_zero]
   cases hx:args[t]? with
   |none=>simp only[qp,zb]
   |some x=>
    simp only[qp]
    obtain⟨v,hv,hr⟩:=hargs.get hx
    have hvl:=(List.getElem?_eq_some_iff.1 hv).1
    have:(vs.toArray++Array.replicate (fn.ntmps-vs.toArray.size) undef).getD t undef=v:=by
     simp[Array.getD_eq_getD_getElem?,Array.getElem?_append,hvl]
     have:=(List.getElem?_eq_some_iff.1 hv).2
     exact this
    rw[this];exact hr
  ·simp only[look,qp,zb]
 refine calls_of_wp hf hb (wp_mono (h E g _ w hS) ?_)
 rintro e a' w' ⟨S',g',hq,hs⟩
 have fin:uP P pin ts R S'→a'.defers=[]∧∃v,(results fn a'.tmps).run P w'=.ok v w'∧∃v' x rs' g'',Ending.returned v=.returned v'∧R x rs'∧zb g'' w' x v'∧GS g'' w' rs'∧Aft g w g'' w' pin:=fun h=>⟨hs.defers,Vj hres hs h⟩
 cases e with
 |normal=>exact fin hq
 |ret=>exact fin hq
 |_=>exact hq.elim
end Go.AM
namespace Go.AM
theorem zeJ [Gi] {P:Program} {y:Code} {ι:Type} {l:Nat} {inv:ι→Prop} {st:ι→St} {Q:Exit→St→Prop} {S:St}(j:ι)(h1:inv j)(h2:LeS S (st j)):zi9 P y (Yl l inv st Q) (.goto l) S:=⟨rfl,j,h1,h2⟩
theorem Sem.zmJ [Gi] {P:Program} {c rest:Code} {Q:Exit→St→Prop} {S:St} {ι:Type}(l:Nat)(inv:ι→Prop)(st:ι→St)(m:ι→Nat)(hf:findLabel c l=some (.seq .skip rest))
  (first:(∀i,inv i→Sem P rest (Yl l inv st Q) (st i))→Sem P c (Yl l inv st Q) S) (pass:∀i,inv i→Sem P rest (Yl l (fun j=>inv j∧m j<m i) st Q) (st i)):Sem P (.scope c) Q S:=
 Sem.jumps l inv st m hf (first fun i hi=>(pass i hi).mono fun e S' h=>by
  cases e with
  |goto l'=>
   obtain⟨h1,j,h2,h3⟩:=h
   exact⟨h1,j,h2.1,h3⟩
  |_=>exact h) (fun i hi=>Sem.seq (Sem.skip (pass i hi)))
end Go.AM
end
