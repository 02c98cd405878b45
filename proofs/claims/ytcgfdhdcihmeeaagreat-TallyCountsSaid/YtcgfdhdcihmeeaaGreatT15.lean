/- A part of the proof of this seat's statements, by an abstract machine: what each operation does to values, and what the law's functions compute. Conditions: as each law says. -/
import Derived.Test.YtcgfdhdcihmeeaaGreatT14
section
namespace Go.AM
def leA(x y:AV):Prop:=
 x=y∨(∃t z es,x=.os t z es∧y=.p (.sl z es))∨(ZE x=true∧((∃z,y=.p (.sl z []))∨(∃t z,y=.os t z [])∨∃t T,y=.bb t T []))∨y=.z8
theorem Ww {x y:AV}(h:leA x y):LeA x y:=by
 rcases h with rfl|⟨t,z,es,rfl,rfl⟩|⟨hn,h⟩|rfl
 ·exact LeA.refl _
 ·exact LeA.dem _ _ _
 ·unfold ZE at hn
  split at hn
  ·rcases h with ⟨z,rfl⟩|⟨t,z,rfl⟩|⟨t,T,rfl⟩
   ·exact LeA.nil z
   ·exact LeA.VD t z
   ·exact fun _ _ _ h=>by simp only[zb,zj]at h⊢;exact .inl ⟨trivial,h⟩
  ·cases hn
 ·exact LeA.z8 _
def leP:List AV→List AV→Prop
 | [],[]=>True
 |x::xs,y::ys=>leA x y∧leP xs ys
 |_,_=>False
theorem zcj {g:Gh} {w:World}:∀{xs ys:List AV} {vs:List Value},leP xs ys→zm g w xs vs→zm g w ys vs
 | [],[],vs,_,r=>r
 |x::xs,y::ys,vs,h,r=>by
  simp only[zm]at r⊢
  obtain⟨v,vs',e,h1,h2⟩:=r
  exact⟨v,vs',e,Ww h.1 _ _ _ h1,zcj h.2 h2⟩
 | [],_::_,_,h,_=>h.elim
 |_::_,[],_,h,_=>h.elim
def leT(x y:AV):Prop:=
 match x with
 |.tup xs=>match y with
  |.tup ys=>leP xs ys
  |_=>False
 |x=>leA x y
theorem zhK {x y:AV}(h:leT x y):LeA x y:=by
 unfold leT at h
 split at h
 ·split at h
  ·intro g w v r
   simp only[zb]at r⊢
   obtain⟨vs,e,r⟩:=r
   exact⟨vs,e,zcj h r⟩
  ·exact h.elim
 ·exact Ww h
def leL:List AV→List AV→Prop
 |_,[]=>True
 | [],_::_=>False
 |x::xs,y::ys=>leA x y∧leL xs ys
theorem zbu:∀{xs ys:List AV},leL xs ys→ys.length≤xs.length∧∀(j:Nat) (y:AV),ys[j]?=some y→∃x,xs[j]?=some x∧LeA x y
 |xs,[],_=>by simp
 | [],y::ys,h=>h.elim
 |x::xs,y::ys,h=>by
  obtain⟨h1,h2⟩:=h
  obtain⟨h3,h4⟩:=zbu h2
  refine⟨by simpa using h3,fun j z hj=>?_⟩
  cases j with
  |zero=>simp at hj;subst hj;exact⟨x,rfl,Ww h1⟩
  |succ j=>simpa using h4 j z (by simpa using hj)
def leV(S:St):List (Nat×AV)→Prop
 | []=>True
 |(t,y)::l=>leA (S.get t) y∧leV S l
theorem zcE {S:St}:∀{l:List (Nat×AV)},leV S l→∀t y,look l t=some y→LeA (S.get t) y
 | [],_,t,y,h=>by simp[look]at h
 |(k,z)::l,h,t,y,hl=>by
  simp only[look]at hl
  split at hl
  ·rename_i e;subst e;injection hl with hl;subst hl;exact Ww h.1
  ·exact zcE h.2 t y hl
def leR(rs:List (Tok×List AV)):List (Tok×List AV)→Prop
 | []=>True
 |(t,ys)::l=>(match zl rs t with|some xs=>leL xs ys|none=>True)∧leR rs l
def has(l:List (Tok×List AV))(t:Tok):Bool:=l.any fun x=>x.1==t
theorem zfO {l:List (Tok×List AV)} {t:Tok}(h:has l t=true):∃ys,zl l t=some ys:=by
 induction l with
 |nil=>simp[has]at h
 |cons x l ih=>
  obtain⟨k,y⟩:=x
  simp only[zl]
  split
  ·exact⟨_,rfl⟩
  ·rename_i hk
   refine ih ?_
   simp only[has,List.any_cons,Bool.or_eq_true,beq_iff_eq]at h⊢
   exact h.resolve_left hk
theorem za1 {rs:List (Tok×List AV)}:∀{l:List (Tok×List AV)},leR rs l→∀t ys xs,zl l t=some ys→zl rs t=some xs→leL xs ys
 | [],_,t,ys,xs,h,_=>by simp[zl]at h
 |(k,z)::l,h,t,ys,xs,hl,hx=>by
  simp only[zl]at hl
  split at hl
  ·rename_i e;subst e;injection hl with hl;subst hl
   have:=h.1
   rw[hx]at this;exact this
  ·exact za1 h.2 t ys xs hl hx
def LeS(S S1:St):Prop:=
 (S1.n=S.n∧S1.pin=S.pin∧S1.ts=[]∧S.pin.all (has S1.rs)=true)∧
  leV (S.fil (has S1.rs) ftt) S1.vs∧leR (S.fil (has S1.rs) ftt).rs S1.rs
theorem SR.le [Gi] {E:Ent} {S S1:St} {g:Gh} {a:Act} {w:World}(h:SR E S g a w)(hl:LeS S S1):∃g',SR E S1 g' a w:=by
 obtain⟨⟨h1,h2,h3,h4⟩,h5,h6⟩:=hl
 have k:=h.filter (has S1.rs) ftt (fun t ht=>List.all_eq_true.1 h4 t ht)
 refine⟨_,by rw[h1];exact k.size,k.defers,fun t=>?_,fun b t hk=>?_,k.ur,k.ut,k.own,k.frame,k.ext,k.out,k.mono,k.frb,fun b t hk ht=>k.pins b t hk (by show t∈S.pin;rw[←h2];exact ht)⟩
 ·unfold St.get
  split
  ·cases hx:look S1.vs t with
   |none=>simp only[qn,zb]
   |some y=>exact zcE h5 t y hx _ _ _ (k.slots t)
  ·rw[h3];simp only[look,qn,zb]
 ·obtain⟨xs,hl,h0,arr,T,hb,hle,hc⟩:=k.roots b t hk
  obtain⟨ys,hy⟩:=zfO (Gh.zW.1 hk).2
  obtain⟨hlen,hget⟩:=zbu (za1 h6 t ys xs hy hl)
  refine⟨ys,hy,h0,arr,T,hb,by omega,fun j y hj=>?_⟩
  obtain⟨x,hx,hxy⟩:=hget j y hj
  obtain⟨v,hv,e,r⟩:=hc j x hx
  exact⟨v,hv,e,hxy _ _ _ r⟩
def zbV(S:St)(mm:List (Tok×Tok)):St:=
 {S with vs:=S.vs.map fun x=>(x.1,x.2.ren (inM mm)),ts:=S.ts.map fun x=>(x.1,x.2.ren (inM mm)),rs:=qB S mm mm}
theorem St.zjv(S:St)(mm:List (Tok×Tok))(t:Nat):(zbV S mm).get t=(S.get t).ren (inM mm):=by
 have hk:(zbV S mm).kept t=S.kept t:=rfl
 unfold St.get
 rw[hk]
 have h:∀l:List (Nat×AV),qn (look (l.map fun x=>(x.1,x.2.ren (inM mm))) t)=(qn (look l t)).ren (inM mm):=fun l=>by
  rw[wV (AV.ren (inM mm))]
  cases look l t<;>simp[qn,AV.ren,AV.upd,UP,kG]
 split
 ·exact h S.vs
 ·exact h S.ts
theorem SR.zbV [Gi] {E:Ent} {S:St} {g:Gh} {a:Act} {w:World}(h:SR E S g a w) {mm:List (Tok×Tok)}(ok:okM 1000000 mm=true)(hp:S.pin.all (fun t=>inM mm t==some t)=true):SR E (AM.zbV S mm) (g.Zu mm) a w:=by
 have G:=h.Zu ok
 refine⟨h.size,h.defers,fun t=>?_,G.roots,G.ur,G.ut,fun b hb=>h.own b (fun e=>hb ?_),h.frame,h.ext,h.out,h.mono,h.frb,fun b t hk ht=>⟨?_,(h.pins b t hk ht).2⟩⟩
 ·rw[St.zjv];exact zb.ren (Ren.Zu g mm) _ _ (h.slots t)
 ·show(g.K b).ren _=.prot
  rw[e];rfl
 ·have:=List.all_eq_true.1 hp t ht
  simp at this
  exact Kd.ZH.2 ⟨t,(h.pins b t hk ht).1,this⟩
def LeR(S S1:St):Prop:=LeS S S1∨∃mm,okM 1000000 mm=true∧S.pin.all (fun t=>inM mm t==some t)=true∧LeS (zbV S mm) S1
theorem SR.leR [Gi] {E:Ent} {S S1:St} {g:Gh} {a:Act} {w:World}(h:SR E S g a w)(hl:LeR S S1):∃g',SR E S1 g' a w:=by
 rcases hl with hl|⟨mm,h1,h2,hl⟩
 ·exact h.le hl
 ·exact(h.zbV h1 h2).le hl
def zex [Gi](P:Program)(ops:Array Oper)(K:St→Prop)(S:St):Prop:=
 ∃(t:OT) (K':St→Prop),(Region.noSelect ops&&okT ops ops.size (Array.replicate ops.size false) t)=true∧j6 P ops K' t S∧∀S',K' S'→K S'∨∃S1,LeR S' S1∧K S1
theorem zc0 [Gi] {P:Program} {ops:Array Oper} {K K2:St→Prop} {S:St}(hk:∀S,K S→K2 S)(h:zex P ops K S):zex P ops K2 S:=by
 obtain⟨t,K',h1,h2,h3⟩:=h
 refine⟨t,K',h1,h2,fun S' k=>?_⟩
 rcases h3 S' k with h|⟨S1,hl,h⟩
 ·exact .inl (hk _ h)
 ·exact .inr ⟨S1,hl,hk _ h⟩
def wpA [Gi](P:Program)(D:List Nat):Code→(Exit→St→Prop)→St→Prop
 |.skip,Q,S=>Q .normal S
 |.region id ops draw,Q,S=>if(draw&&D.contains (id+200000))=true then zex P ops (Q .normal) {S with ts:=[]}else if(draw&&D.contains (id+100000))=true then WI P ops {S with ts:=[]} (Q .normal)else if(draw&&D.contains id)=true then wD P ops ops.toList (W0 P ops.toList {S with ts:=[]}) (Q .normal)else Ze P ops ops.toList {S with ts:=[]} (Q .normal)
 |.seq x y,Q,S=>wpA P D x (fun e S'=>match e with|.normal=>wpA P D y Q S'|e=>Q e S') S
 |.cond c x y,Q,S=>
  match S.ev c with
  |.p (.bool b)=>(b=true→wpA P D x Q S)∧(b=false→wpA P D y Q S)
  |_=>False
 |.block id c,Q,S=>wpA P D c (fun e S'=>match e with|.exit i=>if i=id then Q .normal S' else Q (.exit i) S'|e=>Q e S') S
 |.loop c,Q,S=>∃(ι:Type) (st:ι→St) (m:ι→Nat),(∃i,LeS S (st i))∧∀i,wpA P D c (fun e S'=>match e with|.normal=>∃j,LeR S' (st j)∧m j<m i|e=>Q e S') (st i)
 |.exit id,Q,S=>Q (.exit id) S
 |.ret,Q,S=>Q .ret S
 |_,_,_=>False
def q9(D:List Nat):Code→Bool
 |.region id ops draw=>!draw || D.contains (id+200000) || bif D.contains (id+100000)then JO ops else bif D.contains id then zfD ops else Jh ops
 |.seq x y=>q9 D x&&q9 D y
 |.cond _ x y=>q9 D x&&q9 D y
 |.block _ c=>q9 D c
 |.loop c=>q9 D c
 |_=>true
def post [Gi](E:Ent)(Q:Exit→St→Prop):Exit→Act→World→Prop:=fun e a w=>∃S g,Q e S∧SR E S g a w
theorem SR.clean [Gi] {E:Ent} {S:St} {g:Gh} {a:Act} {w:World}(h:SR E S g a w):SR E {S with ts:=[]} g a w:=by
 refine⟨h.size,h.defers,fun t=>?_,h.roots,h.ur,h.ut,h.own,h.frame,h.ext,h.out,h.mono,h.frb,h.pins⟩
 have hs:=h.slots t
 have hk:({S with ts:=[]}:St).kept t=S.kept t:=rfl
 unfold St.get at hs⊢
 rw[hk]
 split
 ·rename_i hc;rw[if_pos hc]at hs;exact hs
 ·simp only[look,qn,zb]
theorem KF {P:Program} {c:Code} {Q:Exit→Act→World→Prop} {ι:Type}(I:ι→Act→World→Prop)(m:ι→Nat) {a:Act} {w:World} {i₀:ι}(h0:I i₀ a w)
  (round:∀i a w,I i a w→c.wp P (Exit.then (fun a' w'=>∃j,I j a' w'∧m j<m i) Q) a w):(Code.loop c).wp P Q a w:=by
 intro b k cs
 have key:∀n i a w,m i=n→I i a w→
   ∃e a' w',Q e a' w'∧Arrives P (lone (b.at a (.code c::.inLoop c::k)) cs w) b k cs e a' w':=by
  intro n
  induction n using Nat.strongRecOn with
  |_ n ih=>
   intro i a w hn hI
   obtain⟨e,a₁,w₁,hq,harr⟩:=round i a w hI b (.inLoop c::k) cs
   cases e with
   |normal=>
    obtain⟨j,hI₁,hlt⟩:=hq
    obtain⟨e₂,a₂,w₂,hq₂,harr₂⟩:=ih (m j) (hn▸hlt) j a₁ w₁ rfl hI₁
    exact⟨e₂,a₂,w₂,hq₂,.of_steps (Steps.trans harr (.one step_inLoop)) harr₂⟩
   |exit id=>exact⟨_,a₁,w₁,hq,.pass (x:=.inLoop c) rfl (fun _ _=>.inl (by simp)) harr⟩
   |goto l=>exact⟨_,a₁,w₁,hq,.pass (x:=.inLoop c) rfl (fun _ _=>.inl (by simp)) harr⟩
   |ret=>exact⟨_,a₁,w₁,hq,.pass (x:=.inLoop c) rfl (fun _ _=>.inl (by simp)) harr⟩
   |panic ch=>exact⟨_,a₁,w₁,hq,.pass (x:=.inLoop c) rfl (fun _ _=>.inl (by simp)) harr⟩
   |outgrown=>exact⟨_,a₁,w₁,hq,.pass (x:=.inLoop c) rfl (fun _ _=>.inl (by simp)) harr⟩
 obtain⟨e,a',w',hq,harr⟩:=key _ i₀ a w rfl h0
 exact⟨e,a',w',hq,.of_steps (.one step_loop) harr⟩
theorem Zq [Gi] {P:Program} {D:List Nat}(hm:P.follows .mixedOrders=true) {E:Ent}:∀(c:Code) {Q:Exit→St→Prop} {S:St} {g:Gh} {a:Act} {w:World},q9 D c=true→wpA P D c Q S→SR E S g a w→c.wp P (post E Q) a w
 |.skip,Q,S,g,a,w,_,h,hS=>wp_skip ⟨S,g,h,hS⟩
 |.region id ops draw,Q,S,g,a,w,hc,h,hS=>by
  simp only[q9]at hc
  simp only[wpA]at h
  by_cases hT:(draw&&D.contains (id+200000))=true
  ·rw[if_pos hT]at h
   simp only[Bool.and_eq_true]at hT
   obtain⟨rfl,_⟩:=hT
   obtain⟨t,K',h1,h2,h3⟩:=h
   refine JX hm (K:=K') (fun S' g' a' w' hk hs=>?_) ⟨t,h1,h2⟩ hS.clean
   rcases h3 S' hk with h|⟨S1,hl,h⟩
   ·exact⟨S',g',h,hs⟩
   ·obtain⟨g2,hs2⟩:=hs.leR hl
    exact⟨S1,g2,h,hs2⟩
  rw[if_neg hT]at h
  have hc:(!draw || bif D.contains (id+100000)then JO ops else bif D.contains id then zfD ops else Jh ops)=true:=by
   cases draw with
   |false=>rfl
   |true=>
    have:D.contains (id+200000)=false:=by simpa using hT
    rw[this]at hc
    simpa using hc
  by_cases hL:(draw&&D.contains (id+100000))=true
  ·rw[if_pos hL]at h
   simp only[Bool.and_eq_true]at hL
   obtain⟨rfl,hL⟩:=hL
   rw[hL]at hc
   exact Ya hm (by simpa using hc) (K:=Q .normal) (fun S' g' a' w' hk hs=>⟨S',g',hk,hs⟩) h hS.clean
  rw[if_neg hL]at h
  have hc:(!draw || bif D.contains id then zfD ops else Jh ops)=true:=by
   cases draw with
   |false=>rfl
   |true=>
    have:D.contains (id+100000)=false:=by simpa using hL
    rw[this]at hc
    exact hc
  by_cases hD:(draw&&D.contains id)=true
  ·rw[if_pos hD]at h
   simp only[Bool.and_eq_true]at hD
   obtain⟨rfl,hD⟩:=hD
   rw[hD]at hc
   exact J8 hm (by simpa using hc) (K:=Q .normal) (fun S' g' a' w' hk hs=>⟨S',g',hk,hs⟩) h hS.clean
  ·rw[if_neg hD]at h
   refine zah hm ?_ (K:=Q .normal) (fun S' g' a' w' hk hs=>⟨S',g',hk,hs⟩) h hS.clean
   cases draw with
   |false=>rfl
   |true=>
    simp only[Bool.true_and]at hD
    have:D.contains id=false:=by simpa using hD
    rw[this]at hc
    simpa using hc
 |.seq x y,Q,S,g,a,w,hc,h,hS=>by
  simp only[q9,Bool.and_eq_true]at hc
  simp only[wpA]at h
  refine wp_seq (wp_mono (Zq hm x hc.1 h hS) ?_)
  rintro e a' w' ⟨S',g',hq,hs⟩
  cases e with
  |normal=>exact Zq hm y hc.2 hq hs
  |_=>exact⟨S',g',hq,hs⟩
 |.cond c x y,Q,S,g,a,w,hc,h,hS=>by
  simp only[q9,Bool.and_eq_true]at hc
  simp only[wpA]at h
  have hr:=hS.ev c
  split at h
  ·rename_i b hb
   rw[hb]at hr
   simp only[zb,zj]at hr
   cases b with
   |true=>exact wp_cond_true hr (Zq hm x hc.1 (h.1 rfl) hS)
   |false=>exact wp_cond_false hr (Zq hm y hc.2 (h.2 rfl) hS)
  ·exact h.elim
 |.block id c,Q,S,g,a,w,hc,h,hS=>by
  simp only[q9]at hc
  simp only[wpA]at h
  refine wp_block (wp_mono (Zq hm c hc h hS) ?_)
  rintro e a' w' ⟨S',g',hq,hs⟩
  cases e with
  |exit i=>
   simp only[Exit.inBlock]
   simp only[]at hq
   split
   ·rename_i hi;rw[if_pos hi]at hq;exact⟨S',g',hq,hs⟩
   ·rename_i hi;rw[if_neg hi]at hq;exact⟨S',g',hq,hs⟩
  |_=>exact⟨S',g',hq,hs⟩
 |.loop c,Q,S,g,a,w,hc,h,hS=>by
  simp only[q9]at hc
  simp only[wpA]at h
  obtain⟨ι,st,m,⟨i,hi⟩,hround⟩:=h
  obtain⟨g0,h0⟩:=hS.le hi
  refine KF (fun i a w=>∃g,SR E (st i) g a w) m (i₀:=i) ⟨g0,h0⟩ ?_
  rintro i a w ⟨g,hs⟩
  refine wp_mono (Zq hm c hc (hround i) hs) ?_
  rintro e a' w' ⟨S',g',hq,hs'⟩
  cases e with
  |normal=>
   obtain⟨j,hj,hlt⟩:=hq
   obtain⟨g'',h''⟩:=hs'.leR hj
   exact⟨j,⟨g'',h''⟩,hlt⟩
  |_=>exact⟨S',g',hq,hs'⟩
 |.exit id,Q,S,g,a,w,_,h,hS=>wp_exit ⟨S,g,h,hS⟩
 |.ret,Q,S,g,a,w,_,h,hS=>wp_ret ⟨S,g,h,hS⟩
 |.rangeFunc ..,Q,S,g,a,w,_,h,hS=>by simp only[wpA]at h
 |.scope _,Q,S,g,a,w,_,h,hS=>by simp only[wpA]at h
 |.label _,Q,S,g,a,w,_,h,hS=>by simp only[wpA]at h
 |.goto _,Q,S,g,a,w,_,h,hS=>by simp only[wpA]at h
 |.refuse _,Q,S,g,a,w,_,h,hS=>by simp only[wpA]at h
def uV:Nat→List AV→List (Nat×AV)
 |_,[]=>[]
 |k,x::l=>(k,x)::uV (k+1) l
theorem vS:∀(l:List AV) (k t:Nat),look (uV k l) t=if k≤t then l[t-k]? else none
 | [],k,t=>by simp[uV,look]
 |x::l,k,t=>by
  simp only[uV,look]
  split
  ·rename_i h;subst h;simp
  ·rename_i h
   rw[vS l (k+1) t]
   by_cases h1:k≤t
   ·rw[if_pos h1,if_pos (by omega)]
    have:t-k=(t- (k+1))+1:=by omega
    rw[this,List.getElem?_cons_succ]
   ·rw[if_neg h1,if_neg (by omega)]
def Zl:List ResultVar→List (Nat×Option TypeId)
 | []=>[]
 |.tmp t::l=>(t,none)::Zl l
 |.cell a t::l=>(a,some t)::Zl l
def uN:List ResultVar→Option (List (Nat×Option TypeId))
 | []=>some []
 |.tmp t::l=>(uN l).map ((t,none)::·)
 |.cell a t::l=>(uN l).map ((a,some t)::·)
theorem Xy:∀{l:List ResultVar} {ts:List (Nat×Option TypeId)},uN l=some ts→Zl l=ts
 | [],ts,h=>by simp only[uN,Option.some.injEq]at h;subst h;rfl
 |.tmp t::l,ts,h=>by
  simp only[uN,Option.map_eq_some_iff]at h
  obtain⟨us,h1,rfl⟩:=h
  simp[Zl,Xy h1]
 |.cell a t::l,ts,h=>by
  simp only[uN,Option.map_eq_some_iff]at h
  obtain⟨us,h1,rfl⟩:=h
  simp[Zl,Xy h1]
def zaQ(P:Program)(S:St):Nat×Option TypeId→PR
 |(t,none)=>(True,S.get t)
 |(a,some T)=>kA P S T (S.get a)
def Vd(P:Program)(S:St):List (Nat×Option TypeId)→Prop
 | []=>True
 |r::l=>(zaQ P S r).1∧Vd P S l
def zf(P:Program)(S:St):List (Nat×Option TypeId)→PR
 | [r]=>zaQ P S r
 |rs=>(Vd P S rs,.tup (rs.map fun r=>(zaQ P S r).2))
def Wl(kr:List Tok)(rs:List (Tok×List AV)):List (Tok×List AV):=rs.filter fun x=>kr.contains x.1
theorem UE {kr:List Tok} {t:Tok}(h:kr.contains t=true):∀{rs:List (Tok×List AV)} {cs:List AV},zl rs t=some cs→zl (Wl kr rs) t=some cs
 | [],cs,hl=>by simp[zl]at hl
 |(k,x)::rs,cs,hl=>by
  simp only[zl]at hl
  unfold Wl
  simp only[List.filter_cons]
  split at hl
  ·rename_i e;subst e
   rw[if_pos (by simpa using h)]
   simp only[zl,if_true];exact hl
  ·rename_i e
   have ih:=UE h hl
   split
   ·simp only[zl,if_neg e];exact ih
   ·exact ih
def uz(P:Program)(pin:List Tok)(ts:List (Nat×Option TypeId))(R:AV→List (Tok×List AV)→Prop)(S:St):Prop:=
 ∃(kr:List Tok) (x:AV),(S.pin=pin∧S.pin.all (fun t=>kr.contains t)=true)∧((zf P S ts).1∧leT ((zf P S ts).2.upd (AM.fil (fun t=>kr.contains t) ftt)) x)∧R x (Wl kr (S.fil (fun t=>kr.contains t) ftt).rs)
def WG(P:Program)(pin:List Tok)(ts:List (Nat×Option TypeId))(R:AV→List (Tok×List AV)→Prop):Exit→St→Prop
 |.normal,S=>uz P pin ts R S
 |.ret,S=>uz P pin ts R S
 |_,_=>False
theorem zdC {P:Program} {S:St} {t:TypeId} {x:AV}(h:(kA P S t x).1):Vm x=true:=by
 unfold kA at h
 split at h
 ·split at h
  ·rfl
  ·rfl
  ·exact h.elim
 ·exact h.elim
theorem Jd [Gi] {P:Program} {E:Ent} {S:St} {g:Gh} {a:Act} {w:World}(hS:SR E S g a w)(F:ResultVar→Sem Value)(h1:∀t,F (.tmp t)=pure (a.tmps.getD t undef))(h2:∀b t,F (.cell b t)=do loadVar t (←asAddr (a.tmps.getD b undef))):
  ∀{l:List ResultVar},Vd P S (Zl l)→∃vs:List Value,(l.mapM F:Sem (List Value)).run P w=.ok vs w∧zm g w ((Zl l).map fun r=>(zaQ P S r).2) vs
 | [],_=>⟨[],rfl,by simp[Zl,zm]⟩
 |.tmp t::l,h=>by
  obtain⟨vs,e,r⟩:=Jd hS F h1 h2 (l:=l) h.2
  refine⟨a.tmps.getD t undef::vs,?_,?_⟩
  ·simp only[List.mapM_cons,Sem.run_bind,h1,Sem.run_pure,Result.andThen_ok,e]
  ·simp only[Zl,List.map_cons,zm,zaQ]
   exact⟨_,_,rfl,hS.slots t,r⟩
 |.cell b t::l,h=>by
  obtain⟨vs,e,r⟩:=Jd hS F h1 h2 (l:=l) h.2
  have hh:(kA P S t (S.get b)).1:=h.1
  obtain⟨u,hu,hr⟩:=yN hS hh (hS.slots b)
  obtain⟨p,hp⟩:=UU (zdC hh) (hS.slots b)
  have hF:(F (.cell b t)).run P w=.ok u w:=by
   rw[h2,hp]
   rw[hp]at hu
   exact hu
  refine⟨u::vs,?_,?_⟩
  ·simp only[List.mapM_cons,Sem.run_bind,hF,Sem.run_pure,Result.andThen_ok,e]
  ·simp only[Zl,List.map_cons,zm,zaQ]
   exact⟨_,_,rfl,hr,r⟩
theorem zg5 {P:Program} {S:St}:∀{ts:List (Nat×Option TypeId)},(zf P S ts).1→Vd P S ts
 | [],h=>h
 | [_],h=>⟨h,trivial⟩
 |_::_::_,h=>h
theorem Kf [Gi] {P:Program} {fn:Func} {ts:List (Nat×Option TypeId)} {w w':World} {g g':Gh} {hG:Xz g w} {pin:List Tok} {R:AV→List (Tok×List AV)→Prop} {S':St} {a':Act}
  (hres:uN fn.results.toList=some ts) (hs:SR ⟨w,g,hG⟩ S' g' a' w'):uz P pin ts R S'→
  ∃v,(results fn a'.tmps).run P w'=.ok v w'∧∃v' x rs' g'',Ending.returned v=.returned v'∧R x rs'∧zb g'' w' x v'∧GS g'' w' rs'∧Aft g w g'' w' pin:=by
 rintro⟨kr,x,⟨hpin,hkr⟩,⟨hres1,hle⟩,hR⟩
 have k:=hs.filter (fun t=>kr.contains t) ftt (fun t ht=>List.all_eq_true.1 hkr t ht)
 have kp:wx g' w' (g'.fil (fun t=>kr.contains t) ftt) w' (fun t=>kr.contains t) ftt:=⟨Ext.refl _ _,fun b t ht hk=>⟨Gh.zW.2 ⟨hk,ht⟩,fun _ hn=>hn⟩,fun b t ht hk=>⟨Gh.qD.2 ⟨hk,ht⟩,rfl,rfl⟩⟩
 have hres:=Xy hres
 subst hres
 obtain⟨vs,hvs,hrs⟩:=Jd (P:=P) hs (fun|.tmp t=>pure (a'.tmps.getD t undef)|.cell b t=>do loadVar t (←asAddr (a'.tmps.getD b undef))) (fun _=>rfl) (fun _ _=>rfl) (zg5 hres1)
 have hrun:∀v,v=(if h:vs.toArray.size=1 then vs.toArray[0]else .tuple vs.toArray)→(results fn a'.tmps).run P w'=.ok v w':=by
  intro v hv
  unfold results
  rw[Sem.run_bind,Array.mapM_eq_mapM_toList,Sem.run_map]
  have hvs':=hvs
  rw[hv]
  erw [hvs']
  rfl
 have hrep:∃v,(results fn a'.tmps).run P w'=.ok v w'∧zb (g'.fil (fun t=>kr.contains t) ftt) w' ((zf P S' (Zl fn.results.toList)).2.upd (AM.fil (fun t=>kr.contains t) ftt)) v:=by
  have many:(∀r,Zl fn.results.toList≠ [r])→∃v,(results fn a'.tmps).run P w'=.ok v w'∧zb g' w' (zf P S' (Zl fn.results.toList)).2 v:=by
   intro hne
   refine⟨.tuple vs.toArray,hrun _ ?_,?_⟩
   ·rw[dif_neg]
    have hl:vs.length=(Zl fn.results.toList).length:=by
     have:∀(xs:List AV) (vs:List Value),zm g' w' xs vs→vs.length=xs.length:=by
      intro xs
      induction xs with
      |nil=>intro vs h;simp only[zm]at h;subst h;rfl
      |cons x xs ih=>intro vs h;simp only[zm]at h;obtain⟨_,vs',rfl,_,h⟩:=h;simp[ih vs' h]
     simpa using this _ _ hrs
    intro h1
    have h1':vs.length=1:=by simpa using h1
    rw[hl]at h1'
    obtain⟨r,hr⟩:=List.length_eq_one_iff.1 h1'
    exact hne r hr
   ·have e:zf P S' (Zl fn.results.toList)=(Vd P S' (Zl fn.results.toList),.tup ((Zl fn.results.toList).map fun r=>(zaQ P S' r).2)):=by
     unfold zf
     split
     ·rename_i r hr;exact absurd hr (hne r)
     ·rfl
    rw[e]
    simp only[zb]
    exact⟨_,rfl,by simpa using hrs⟩
  by_cases h1:∃r,Zl fn.results.toList=[r]
  ·obtain⟨r,hr⟩:=h1
   rw[hr]at hrs
   simp only[List.map_cons,List.map_nil,zm]at hrs
   obtain⟨v,_,rfl,hv,rfl⟩:=hrs
   refine⟨v,hrun v (by simp),?_⟩
   rw[hr]
   exact zb.upd kp _ _ hv
  ·obtain⟨v,e,hv⟩:=many (fun r hr=>h1 ⟨r,hr⟩)
   exact⟨v,e,zb.upd kp _ _ hv⟩
 obtain⟨v,hv1,hv2⟩:=hrep
 refine⟨v,hv1,v,x,_,g'.fil (fun t=>kr.contains t) ftt,rfl,hR,zhK hle _ _ _ hv2,⟨fun b t hk=>?_,k.ur,k.ut,fun b hb=>(k.own b hb).1,k.frb,k.gl⟩,⟨fun b hb hk=>?_,k.ext,k.out,k.mono,fun b t hk ht=>?_⟩⟩
 ·obtain⟨cs,hl,hrest⟩:=k.roots b t hk
  exact⟨cs,UE (Gh.zW.1 hk).2 hl,hrest⟩
 ·have hmay:¬(Ent.mk w g hG).may b:=by
   unfold Ent.may
   rintro(h'|h')
   ·have:w.heap.size≤b:=h';omega
   ·exact h' hk
  refine⟨(k.frame b hmay).1,(k.frame b hmay).2,?_⟩
  rcases Classical.em ((g'.fil (fun t=>kr.contains t) ftt).K b=.prot)with e|e
  ·exact e
  ·exact absurd (k.own b e).2 hmay
 ·have hp:t∈S'.pin:=by rw[hpin];exact ht
  exact k.pins b t hk hp
theorem zgn [Gi] {P:Program}(D:List Nat)(hm:P.follows .mixedOrders=true) {f:FuncId} {fn:Func} {c:Code} {ts:List (Nat×Option TypeId)}(nv:Nat)(ex:List Nat)(hf:P.funcs[f]?=some fn)(hb:fn.body=some c)(hok:q9 D c=true)(rm:List Nat)(bt:List TypeId)
  (hres:uN fn.results.toList=some ts) {pin:List Tok} {args:List AV} {rs:List (Tok×List AV)} {R:AV→List (Tok×List AV)→Prop} (hnv:args.length≤nv) (hn:args.length≤fn.ntmps)
  (h:wpA P D c (WG P pin ts R) {n:=fn.ntmps,nv:=nv,vs:=uV 0 args,ts:=[],rs:=rs,pin:=pin,ex:=ex,rm:=rm,bt:=bt}):CR P f pin args rs R:=by
 intro w g vs hargs hG
 have hlen:vs.length=args.length:=by
  have h0:args.length≤nv:=hnv
  clear h0 h hnv hn
  induction args generalizing vs with
  |nil=>simp only[zm]at hargs;subst hargs;rfl
  |cons x xs ih=>simp only[zm]at hargs;obtain⟨v,vs',rfl,_,h2⟩:=hargs;simp[ih vs' h2]
 let E:Ent:=⟨w,g,hG.gl⟩
 have hS:SR E {n:=fn.ntmps,nv:=nv,vs:=uV 0 args,ts:=[],rs:=rs,pin:=pin,ex:=ex,rm:=rm,bt:=bt} g {tmps:=vs.toArray++Array.replicate (fn.ntmps-vs.toArray.size) undef,defers:=[]} w:=by
  refine⟨by simp;omega,rfl,fun t=>?_,hG.roots,hG.ur,hG.ut,fun b hb=>⟨hG.own b hb,.inr hb⟩,fun b _=>⟨rfl,rfl⟩,Ext.refl _ _,⟨rfl,rfl,rfl⟩,Nat.le_refl _,hG.frb,fun b t hk _=>⟨hk,fun _ hn=>hn⟩⟩
  unfold St.get
  split
  ·simp only[vS,Nat.zero_le,if_true,Nat.sub_zero]
   cases hx:args[t]? with
   |none=>simp only[qn,zb]
   |some x=>
    simp only[qn]
    obtain⟨v,hv,hr⟩:=hargs.get hx
    have hvl:=(List.getElem?_eq_some_iff.1 hv).1
    have:(vs.toArray++Array.replicate (fn.ntmps-vs.toArray.size) undef).getD t undef=v:=by
     simp[Array.getD_eq_getD_getElem?,Array.getElem?_append,hvl]
     have:=(List.getElem?_eq_some_iff.1 hv).2
     exact this
    rw[this];exact hr
  ·simp only[look,qn,zb]
 refine calls_of_wp hf hb (wp_mono (Zq hm c hok h hS) ?_)
 rintro e a' w' ⟨S',g',hq,hs⟩
 have fin:uz P pin ts R S'→a'.defers=[]∧∃v,(results fn a'.tmps).run P w'=.ok v w'∧∃v' x rs' g'',Ending.returned v=.returned v'∧R x rs'∧zb g'' w' x v'∧GS g'' w' rs'∧Aft g w g'' w' pin:=fun h=>⟨hs.defers,Kf hres hs h⟩
 cases e with
 |normal=>exact fin hq
 |ret=>exact fin hq
 |_=>exact hq.elim
theorem vX [Gi] {P:Program}(D:List Nat)(hm:P.follows .mixedOrders=true) {f:FuncId} {fn:Func} {c:Code} {ts:List (Nat×Option TypeId)}(nv:Nat)(ex:List Nat)(hf:P.funcs[f]?=some fn)(hb:fn.body=some c)(hok:q9 D c=true)(rm:List Nat)
  (hres:uN fn.results.toList=some ts) {pin:List Tok} {args:List AV} {rs:List (Tok×List AV)} {R:AV→List (Tok×List AV)→Prop} (hnv:args.length≤nv) (hn:args.length≤fn.ntmps)
  (h:wpA P D c (WG P pin ts R) {n:=fn.ntmps,nv:=nv,vs:=uV 0 args,ts:=[],rs:=rs,pin:=pin,ex:=ex,rm:=rm}):CR P f pin args rs R:=
 zgn D hm nv ex hf hb hok rm [] hres hnv hn h
theorem zR [Gi] {P:Program}(D:List Nat)(hm:P.follows .mixedOrders=true) {f:FuncId} {fn:Func} {c:Code} {ts:List (Nat×Option TypeId)}(nv:Nat)(ex:List Nat)(hf:P.funcs[f]?=some fn)(hb:fn.body=some c)(hok:q9 D c=true)
  (hres:uN fn.results.toList=some ts) {pin:List Tok} {args:List AV} {rs:List (Tok×List AV)} {R:AV→List (Tok×List AV)→Prop} (hnv:args.length≤nv) (hn:args.length≤fn.ntmps)
  (h:wpA P D c (WG P pin ts R) {n:=fn.ntmps,nv:=nv,vs:=uV 0 args,ts:=[],rs:=rs,pin:=pin,ex:=ex}):CR P f pin args rs R:=
 vX D hm nv ex hf hb hok [] hres hnv hn h
theorem zC [Gi] {P:Program}(hm:P.follows .mixedOrders=true) {f:FuncId} {fn:Func} {c:Code} {ts:List (Nat×Option TypeId)}(nv:Nat)(ex:List Nat)(hf:P.funcs[f]?=some fn)(hb:fn.body=some c)(hok:q9 [] c=true)
  (hres:uN fn.results.toList=some ts) {pin:List Tok} {args:List AV} {rs:List (Tok×List AV)} {R:AV→List (Tok×List AV)→Prop} (hnv:args.length≤nv) (hn:args.length≤fn.ntmps)
  (h:wpA P [] c (WG P pin ts R) {n:=fn.ntmps,nv:=nv,vs:=uV 0 args,ts:=[],rs:=rs,pin:=pin,ex:=ex}):CR P f pin args rs R:=
 zR [] hm nv ex hf hb hok hres hnv hn h
end Go.AM
end
