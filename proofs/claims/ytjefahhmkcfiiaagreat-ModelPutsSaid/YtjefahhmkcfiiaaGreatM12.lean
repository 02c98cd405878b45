/- A part of the proof of this seat's statements, by an abstract machine: what each operation does to values, and what the law's functions compute. Conditions: as each law says. -/
import Derived.Test.YtjefahhmkcfiiaaGreatM10
import Derived.Test.YtjefahhmkcfiiaaGreatM11
section
namespace Go.AM
structure GS [Gi](g:Gh)(w:World)(rs:List (Tok×List AV)):Prop where
 roots:∀b t,g.K b=.root t→∃cs,lookT rs t=some cs∧RootOK g w b cs
 ur:∀b b' t,g.K b=.root t→g.K b'=.root t→b=b'
 ut:∀b b' t,g.K b=.tail t→g.K b'=.tail t→b=b'
 own:∀b,g.K b≠ .prot→b<w.heap.size
 frb:∀b,w.heap.size≤b→g.fr b=0
 gl:GlOK g w
structure Aft(g:Gh)(w:World)(g':Gh)(w':World)(pin:List Tok):Prop where
 frame:∀b,b<w.heap.size→g.K b=.prot→w'.heap[b]?=w.heap[b]?∧g'.fr b=g.fr b∧g'.K b=.prot
 ext:Ext g.fr w g'.fr w'
 out:w'.os=w.os∧w'.tape=w.tape∧w'.output=w.output
 mono:w.heap.size≤w'.heap.size
 pins:∀b t,g.K b=.root t→t∈pin→g'.K b=.root t∧∀n,Blk w b n→Blk w' b n
theorem GlOK.aft [Gi] {g g':Gh} {w w':World} {pin:List Tok}(h:GlOK g w)(k:Aft g w g' w' pin):GlOK g' w':=fun b arr e=>by
 obtain⟨hk,T,f,hb⟩:=h b arr e
 obtain⟨h1,_,h3⟩:=k.frame b (Array.getElem?_eq_some_iff.1 hb).1 hk
 exact⟨h3,T,f,h1.trans hb⟩
def CR [Gi](P:Program)(f:FuncId)(pin:List Tok)(args:List AV)(rs:List (Tok×List AV))(R:AV→List (Tok×List AV)→Prop):Prop:=
 ∀(w:World) (g:Gh) (vs:List Value),RepAL g w args vs→GS g w rs→Calls P f vs.toArray w fun e w'=>
  ∃v x rs' g',e=.returned v∧R x rs'∧RepA g' w' x v∧GS g' w' rs'∧Aft g w g' w' pin
theorem CR.mono [Gi] {P:Program} {f:FuncId} {pin:List Tok} {args:List AV} {rs:List (Tok×List AV)} {R R':AV→List (Tok×List AV)→Prop}(h:CR P f pin args rs R)(hr:∀x rs',R x rs'→R' x rs'):CR P f pin args rs R':=
 fun w g vs h1 h2=>(h w g vs h1 h2).mono fun _ _ ⟨v,x,rs',g',e,r,rest⟩=>⟨v,x,rs',g',e,hr _ _ r,rest⟩
def renF(f:Tok→Option Tok):AV→AV
 |.lp t o=>match f t with
  |some u=>.lp u o
  |none=>.junk
 |.la t z o n=>match f t with
  |some u=>.la u z o n
  |none=>.junk
 |.os t z es=>match f t with
  |some u=>.os u z es
  |none=>.p (.sl z es)
 |.om t ks xs=>match f t with
  |some u=>.om u ks xs
  |none=>.junk
 |.ow t z es=>match f t with
  |some u=>.ow u z es
  |none=>.junk
 |.bb t T l=>match f t with
  |some u=>.bb u T l
  |none=>.junk
 |.bz t T m=>match f t with
  |some u=>.bz u T m
  |none=>.junk
 |.st t j=>match f t with
  |some u=>.st u j
  |none=>.junk
 |.it t ks xs l c=>match f t with
  |some u=>.it u ks xs l c
  |none=>.junk
 |.tup _=>.junk
 |.gd _ _=>.junk
 |.ag _=>.junk
 |.fn _ _=>.junk
 |x=>x
def renG(f:Tok→Option Tok):AV→AV
 |.ag xs=>.ag (xs.map (renF f))
 |.fn c xs=>.fn c (xs.map (renF f))
 |x=>renF f x
def AV.ren(f:Tok→Option Tok)(x:AV):AV:=x.upd (renG f)
structure Ren(g:Gh)(g':Gh)(f:Tok→Option Tok):Prop where
 fr:g'.fr=g.fr
 kr:∀b t u,f t=some u→g.K b=.root t→g'.K b=.root u
 kt:∀b t u,f t=some u→g.K b=.tail t→g'.K b=.tail u
theorem RepA.renF {g g':Gh} {w:World} {f:Tok→Option Tok}(k:Ren g g' f)(x:AV)(v:Value)(r:RepA g w x v):RepA g' w (renF f x) v:=by
 cases x with
 |p x=>simp only[AM.renF,RepA]at r⊢;rw[k.fr];exact r
 |os t z es=>
  simp only[RepA]at r
  simp only[AM.renF]
  split
  ·rename_i u hu
   simp only[RepA]
   rw[k.fr]
   refine⟨r.1,r.2.imp id ?_⟩
   rintro⟨b,o,len,cap,e,hk,hf,hb⟩
   exact⟨b,o,len,cap,e,k.kt b t u hu hk,hf,hb⟩
  ·simp only[RepA];rw[k.fr];exact r.1
 |om t ks xs=>
  simp only[AM.renF]
  split
  ·rename_i u hu
   simp only[RepA]at r⊢
   obtain⟨b,arr,c,e,hk,rest⟩:=r
   rw[k.fr]
   exact⟨b,arr,c,e,k.kt b t u hu hk,rest⟩
  ·simp only[RepA]
 |ow t z es=>
  simp only[AM.renF]
  split
  ·rename_i u hu
   simp only[RepA]at r⊢
   exact r
  ·simp only[RepA]
 |lp t o=>
  simp only[AM.renF]
  split
  ·rename_i u hu
   simp only[RepA]at r⊢
   obtain⟨b,hk,e⟩:=r
   exact⟨b,k.kr b t u hu hk,e⟩
  ·simp only[RepA]
 |la t z o n=>
  simp only[AM.renF]
  split
  ·rename_i u hu
   simp only[RepA]at r⊢
   obtain⟨b,o',cap,hk,e,hn⟩:=r
   exact⟨b,o',cap,k.kr b t u hu hk,e,hn⟩
  ·simp only[RepA]
 |bz t T m=>
  simp only[AM.renF]
  split
  ·rename_i u hu
   simp only[RepA]at r⊢
   obtain⟨b,hk,hb,e⟩:=r
   exact⟨b,k.kr b t u hu hk,hb,e⟩
  ·simp only[RepA]
 |bb t T l=>
  simp only[AM.renF]
  split
  ·rename_i u hu
   simp only[RepA]at r⊢
   rw[k.fr]
   refine r.imp id ?_
   rintro⟨b,cap,arr,e,hk,rest⟩
   exact⟨b,cap,arr,e,k.kt b t u hu hk,rest⟩
  ·simp only[RepA]
 |st t j=>
  simp only[AM.renF]
  split
  ·rename_i u hu
   simp only[RepA]at r⊢
   obtain⟨b,arr,c,e,hk,rest⟩:=r
   exact⟨b,arr,c,e,k.kt b t u hu hk,rest⟩
  ·simp only[RepA]
 |it t ks xs l c=>
  simp only[AM.renF]
  split
  ·rename_i u hu
   simp only[RepA]at r⊢
   rw[k.fr]
   obtain⟨b,bm,since,seen,c0,arr,clock,e,hk,rest⟩:=r
   exact⟨b,bm,since,seen,c0,arr,clock,e,k.kt b t u hu hk,rest⟩
  ·simp only[RepA]
 |ip z e o=>simp only[AM.renF,RepA]at r⊢;rw[k.fr];exact r
 |_=>simp only[AM.renF,RepA]
theorem RepA.renG {g g':Gh} {w:World} {f:Tok→Option Tok}(k:Ren g g' f)(x:AV)(v:Value)(r:RepA g w x v):RepA g' w (renG f x) v:=by
 cases x with
 |ag xs=>
  simp only[AM.renG,RepA]at r⊢
  obtain⟨vs,e,h1,r⟩:=r
  exact⟨vs,e,h1,RepAL.map _ (RepA.renF k) xs _ r⟩
 |fn c xs=>
  simp only[AM.renG,RepA]at r⊢
  obtain⟨vs,e,r⟩:=r
  exact⟨vs,e,RepAL.map _ (RepA.renF k) xs _ r⟩
 |_=>exact RepA.renF k _ v r
theorem RepA.ren {g g':Gh} {w:World} {f:Tok→Option Tok}(k:Ren g g' f)(x:AV)(v:Value)(r:RepA g w x v):RepA g' w (x.ren f) v:=by
 cases x with
 |tup xs=>
  simp only[AV.ren,AV.upd,RepA]at r⊢
  obtain⟨vs,e,r⟩:=r
  exact⟨vs,e,RepAL.map _ (RepA.renG k) xs _ r⟩
 |gd c x=>
  simp only[AV.ren,AV.upd,RepA]at r⊢
  exact⟨fun hc=>RepA.renG k x v (r.1 hc),r.2⟩
 |_=>exact RepA.renG k _ v r
def inM:List (Tok×Tok)→Tok→Option Tok
 | [],_=>none
 |(u,t)::m,x=>if t=x then some u else inM m x
def outM(d:Nat)(m:List (Tok×Tok))(u:Tok):Tok:=match lookT m u with
 |some t=>t
 |none=>d::u
def notHead(d:Nat):Tok→Bool
 | []=>true
 |k::_=>k !=d
def okM(d:Nat):List (Tok×Tok)→Bool
 | []=>true
 |(u,t)::m=>(lookT m u).isNone&&(inM m t).isNone&&notHead d t&&okM d m
theorem inM_look {d:Nat}:∀{m:List (Tok×Tok)},okM d m=true→∀{t u:Tok},inM m t=some u→lookT m u=some t
 | [],_,t,u,h=>by simp[inM]at h
 |(u0,t0)::m,ok,t,u,h=>by
  simp only[okM,Bool.and_eq_true,Option.isNone_iff_eq_none]at ok
  simp only[inM]at h
  simp only[lookT]
  split at h
  ·rename_i e;injection h with h;subst e;subst h;simp
  ·have ih:=inM_look ok.2 h
   split
   ·rename_i e;subst e;rw[ok.1.1.1]at ih;cases ih
   ·exact ih
theorem look_inM {d:Nat}:∀{m:List (Tok×Tok)},okM d m=true→∀{t u:Tok},lookT m u=some t→inM m t=some u∧notHead d t=true
 | [],_,t,u,h=>by simp[lookT]at h
 |(u0,t0)::m,ok,t,u,h=>by
  simp only[okM,Bool.and_eq_true,Option.isNone_iff_eq_none]at ok
  simp only[lookT]at h
  simp only[inM]
  split at h
  ·rename_i e;injection h with h;subst e;subst h;simp[ok.1.2]
  ·have ih:=look_inM ok.2 h
   split
   ·rename_i e;subst e;rw[ok.1.1.2]at ih;cases ih.1
   ·exact ih
theorem outM_inj {d:Nat} {m:List (Tok×Tok)}(ok:okM d m=true) {u u':Tok}(h:outM d m u=outM d m u'):u=u':=by
 unfold outM at h
 cases h1:lookT m u with
 |some t=>
  rw[h1]at h
  cases h2:lookT m u' with
  |some t'=>
   rw[h2]at h
   simp only[]at h
   subst h
   have a1:=(look_inM ok h1).1
   have a2:=(look_inM ok h2).1
   rw[a1]at a2;injection a2
  |none=>
   rw[h2]at h
   simp only[]at h
   have:=(look_inM ok h1).2
   rw[h]at this;simp[notHead]at this
 |none=>
  rw[h1]at h
  cases h2:lookT m u' with
  |some t'=>
   rw[h2]at h
   simp only[]at h
   have:=(look_inM ok h2).2
   rw[←h]at this;simp[notHead]at this
  |none=>
   rw[h2]at h
   simp only[]at h
   injection h
theorem outM_spec {d:Nat} {m:List (Tok×Tok)}(ok:okM d m=true)(u:Tok):inM m (outM d m u)=some u∨notHead d (outM d m u)=false:=by
 unfold outM
 cases h1:lookT m u with
 |some t=>exact .inl (look_inM ok h1).1
 |none=>exact .inr (by simp[notHead])
def rootsR(S:St)(m:List (Tok×Tok)):List (Tok×Tok)→List (Tok×List AV)
 | []=>[]
 |(u,t)::l=>match lookT S.rs t with
  |some cs=>(u,cs.map (AV.ren (inM m)))::rootsR S m l
  |none=>rootsR S m l
theorem rootsR_look {S:St} {m0:List (Tok×Tok)}:∀{m:List (Tok×Tok)} {t u:Tok} {cs:List AV},lookT m u=some t→lookT S.rs t=some cs→lookT (rootsR S m0 m) u=some (cs.map (AV.ren (inM m0)))
 | [],t,u,cs,h,_=>by simp[lookT]at h
 |(u0,t0)::m,t,u,cs,h,hl=>by
  simp only[lookT]at h
  unfold rootsR
  split at h
  ·rename_i e;injection h with h;subst e;subst h
   rw[hl];simp[lookT]
  ·rename_i e
   have ih:=rootsR_look (m0:=m0) h hl
   split
   ·simp only[lookT,if_neg e];exact ih
   ·exact ih
def keptR(d:Nat)(m:List (Tok×Tok))(pin:List Tok)(t:Tok):Bool:=notHead d t&&match inM m t with
 |none=>true
 |some u=>pin.contains u
def keptT(d:Nat)(m:List (Tok×Tok))(t:Tok):Bool:=notHead d t&&(inM m t).isNone
def dropR(d:Nat)(m:List (Tok×Tok)):List (Tok×List AV)→List (Tok×List AV)
 | []=>[]
 |(t,cs)::l=>if keptT d m t then(t,cs)::dropR d m l else dropR d m l
def backR(d:Nat)(m:List (Tok×Tok))(rest:List (Tok×List AV)):List (Tok×List AV)→List (Tok×List AV)
 | []=>rest
 |(u,cs)::l=>(outM d m u,cs.map (AV.ren fun u=>some (outM d m u)))::backR d m rest l
theorem dropR_look {d:Nat} {m:List (Tok×Tok)} {t:Tok}(ht:keptT d m t=true):∀l:List (Tok×List AV),lookT (dropR d m l) t=lookT l t
 | []=>rfl
 |(u,cs)::l=>by
  unfold dropR
  split
  ·simp only[lookT,dropR_look ht l]
  ·rename_i h
   simp only[lookT,dropR_look ht l]
   split
   ·rename_i e;subst e;exact absurd ht h
   ·rfl
theorem backR_none {d:Nat} {m:List (Tok×Tok)}(ok:okM d m=true) {rest:List (Tok×List AV)} {t:Tok}(ht:keptT d m t=true):∀l:List (Tok×List AV),lookT (backR d m rest l) t=lookT rest t
 | []=>rfl
 |(u,cs)::l=>by
  simp only[backR,lookT]
  split
  ·rename_i e
   simp only[keptT,Bool.and_eq_true,Option.isNone_iff_eq_none]at ht
   rcases outM_spec ok u with h|h
   ·rw[e,ht.2]at h;cases h
   ·rw[e,ht.1]at h;cases h
  ·exact backR_none ok ht l
theorem backR_look {d:Nat} {m:List (Tok×Tok)}(ok:okM d m=true) {rest:List (Tok×List AV)} {u:Tok} {cs:List AV}:∀{l:List (Tok×List AV)},lookT l u=some cs→lookT (backR d m rest l) (outM d m u)=some (cs.map (AV.ren fun u=>some (outM d m u)))
 | [],h=>by simp[lookT]at h
 |(u0,cs0)::l,h=>by
  simp only[lookT]at h
  simp only[backR,lookT]
  split at h
  ·rename_i e;injection h with h;subst e;subst h;simp
  ·rename_i e
   rw[if_neg (fun h'=>e (outM_inj ok h'))]
   exact backR_look ok h
def afterS(S:St)(d:Nat)(m:List (Tok×Tok))(pin:List Tok)(rs':List (Tok×List AV)):St:=
 let S1:=S.fil (keptR d m pin) (keptT d m)
 {S1 with rs:=backR d m (dropR d m S1.rs) rs'}
def Kd.ren(f:Tok→Option Tok):Kd→Kd
 |.prot=>.prot
 |.root t=>match f t with
  |some u=>.root u
  |none=>.prot
 |.tail t=>match f t with
  |some u=>.tail u
  |none=>.prot
theorem Kd.ren_root {f:Tok→Option Tok} {u:Tok}:∀{k:Kd},k.ren f=.root u↔∃t,k=.root t∧f t=some u
 |.prot=>by simp[Kd.ren]
 |.root t=>by
  simp only[Kd.ren]
  cases h:f t<;>simp[h]
 |.tail t=>by
  simp only[Kd.ren]
  cases h:f t<;>simp
theorem Kd.ren_tail {f:Tok→Option Tok} {u:Tok}:∀{k:Kd},k.ren f=.tail u↔∃t,k=.tail t∧f t=some u
 |.prot=>by simp[Kd.ren]
 |.root t=>by
  simp only[Kd.ren]
  cases h:f t<;>simp
 |.tail t=>by
  simp only[Kd.ren]
  cases h:f t<;>simp[h]
def Gh.give(g:Gh)(m:List (Tok×Tok)):Gh:=⟨g.fr,fun b=>(g.K b).ren (inM m)⟩
theorem Ren.give(g:Gh)(m:List (Tok×Tok)):Ren g (g.give m) (inM m):=
 ⟨rfl,fun _ t _ hu hk=>Kd.ren_root.2 ⟨t,hk,hu⟩,fun _ t _ hu hk=>Kd.ren_tail.2 ⟨t,hk,hu⟩⟩
theorem SR.give [Gi] {E:Ent} {S:St} {g:Gh} {a:Act} {w:World}(h:SR E S g a w) {d:Nat} {m:List (Tok×Tok)}(ok:okM d m=true):GS (g.give m) w (rootsR S m m):=by
 refine⟨fun b u hk=>?_,fun b b' u hk hk'=>?_,fun b b' u hk hk'=>?_,fun b hb=>(h.own b (fun e=>hb ?_)).1,h.frb,fun b arr e=>⟨by show(g.K b).ren _=.prot;rw[(h.gl b arr e).1];rfl,(h.gl b arr e).2⟩⟩
 ·obtain⟨t,hk,hu⟩:=Kd.ren_root.1 hk
  obtain⟨cs,hl,h0,arr,T,hb,hle,hc⟩:=h.roots b t hk
  refine⟨_,rootsR_look (inM_look ok hu) hl,h0,arr,T,hb,by simpa using hle,fun j x hj=>?_⟩
  simp only[List.getElem?_map,Option.map_eq_some_iff]at hj
  obtain⟨y,hy,rfl⟩:=hj
  obtain⟨v,hv,h1,r⟩:=hc j y hy
  exact⟨v,hv,h1,RepA.ren (Ren.give g m) _ _ r⟩
 ·obtain⟨t,hk,hu⟩:=Kd.ren_root.1 hk
  obtain⟨t',hk',hu'⟩:=Kd.ren_root.1 hk'
  have e:=inM_look ok hu
  rw[inM_look ok hu']at e;injection e with e;subst e
  exact h.ur b b' _ hk hk'
 ·obtain⟨t,hk,hu⟩:=Kd.ren_tail.1 hk
  obtain⟨t',hk',hu'⟩:=Kd.ren_tail.1 hk'
  have e:=inM_look ok hu
  rw[inM_look ok hu']at e;injection e with e;subst e
  exact h.ut b b' _ hk hk'
 ·show(g.K b).ren _=.prot
  rw[e];rfl
open Classical in
theorem SR.afterCall [Gi] {E:Ent} {S:St} {g:Gh} {a:Act} {w:World}(h:SR E S g a w) {d:Nat} {m:List (Tok×Tok)} {pin:List Tok}(ok:okM d m=true)(hpin:S.pin.all (keptR d m pin)=true) {rs':List (Tok×List AV)} {g':Gh} {w':World}
  (hG:GS g' w' rs') (hA:Aft (g.give m) w g' w' pin):
  ∃g'',SR E (afterS S d m pin rs') g'' a w'∧∀x v,RepA g' w' x v→RepA g'' w' (x.ren fun u=>some (outM d m u)) v:=by
 have h1:=h.filter (keptR d m pin) (keptT d m) (fun t ht=>List.all_eq_true.1 hpin t ht)
 let K'':Nat→Kd:=fun b=>if b<w.heap.size∧(g.give m).K b=.prot then(g.fil (keptR d m pin) (keptT d m)).K b else(g'.K b).ren fun u=>some (outM d m u)
 have old:∀b,b<w.heap.size∧(g.give m).K b=.prot→K'' b=(g.fil (keptR d m pin) (keptT d m)).K b:=fun b hb=>if_pos hb
 have nw:∀b,¬(b<w.heap.size∧(g.give m).K b=.prot)→K'' b=(g'.K b).ren fun u=>some (outM d m u):=fun b hb=>if_neg hb
 have hne:∀b,g'.K b≠ .prot→¬(b<w.heap.size∧(g.give m).K b=.prot):=fun b hb hc=>hb (hA.frame b hc.1 hc.2).2.2
 have rr:Ren g' ⟨g'.fr,K''⟩ (fun u=>some (outM d m u)):=⟨rfl,fun b t u hu hk=>by
   show K'' b=_
   rw[nw b (hne b (by rw[hk];simp)),hk]
   injection hu with hu;subst hu;rfl,fun b t u hu hk=>by
   show K'' b=_
   rw[nw b (hne b (by rw[hk];simp)),hk]
   injection hu with hu;subst hu;rfl⟩
 have hlt:∀b,(g.fil (keptR d m pin) (keptT d m)).K b≠ .prot→b<w.heap.size:=fun b hb=>(h1.own b hb).1
 have keepRoot:∀b t,g.K b=.root t→keptR d m pin t=true→K'' b=.root t:=fun b t hk ht=>by
  have hb:b<w.heap.size:=(h.own b (by rw[hk];simp)).1
  cases hi:inM m t with
  |none=>
   rw[old b ⟨hb,by show(g.K b).ren _=.prot;rw[hk];simp[Kd.ren,hi]⟩]
   exact Gh.fil_root.2 ⟨hk,ht⟩
  |some u=>
   have hc:(g.give m).K b=.root u:=Kd.ren_root.2 ⟨t,hk,hi⟩
   have hp:u∈pin:=by
    unfold keptR at ht
    rw[hi]at ht
    simp at ht
    exact ht.2
   rw[nw b (fun hx=>by rw[hc]at hx;cases hx.2),(hA.pins b u hc hp).1]
   simp only[Kd.ren,outM,inM_look ok hi]
 have keepBlk:∀b t,g.K b=.root t→keptR d m pin t=true→∀n,Blk w b n→Blk w' b n:=fun b t hk ht n hn=>by
  have hb:b<w.heap.size:=(h.own b (by rw[hk];simp)).1
  cases hi:inM m t with
  |none=>exact Blk.of_heap (hA.frame b hb (by show(g.K b).ren _=.prot;rw[hk];simp[Kd.ren,hi])).1 hn
  |some u=>
   have hc:(g.give m).K b=.root u:=Kd.ren_root.2 ⟨t,hk,hi⟩
   have hp:u∈pin:=by
    unfold keptR at ht
    rw[hi]at ht
    simp at ht
    exact ht.2
   exact(hA.pins b u hc hp).2 n hn
 have keepTail:∀b t,g.K b=.tail t→keptT d m t=true→b<w.heap.size∧(g.give m).K b=.prot∧K'' b=.tail t:=fun b t hk ht=>by
  have hb:b<w.heap.size:=(h.own b (by rw[hk];simp)).1
  have hi:inM m t=none:=by
   simp only[keptT,Bool.and_eq_true,Option.isNone_iff_eq_none]at ht;exact ht.2
  have hp:(g.give m).K b=.prot:=by show(g.K b).ren _=.prot;rw[hk];simp[Kd.ren,hi]
  exact⟨hb,hp,by rw[old b ⟨hb,hp⟩];exact Gh.fil_tail.2 ⟨hk,ht⟩⟩
 have k:Keep (g.fil (keptR d m pin) (keptT d m)) w ⟨g'.fr,K''⟩ w' ftt ftt:=⟨hA.ext,fun b t _ hk=>⟨keepRoot b t (Gh.fil_root.1 hk).1 (Gh.fil_root.1 hk).2,keepBlk b t (Gh.fil_root.1 hk).1 (Gh.fil_root.1 hk).2⟩,fun b t _ hk=>by
   obtain⟨hb,hp,e⟩:=keepTail b t (Gh.fil_tail.1 hk).1 (Gh.fil_tail.1 hk).2
   exact⟨e,(hA.frame b hb hp).2.1,keep_of_heap (hA.frame b hb hp).1⟩⟩
 -- where a block's name comes from
 have from_r:∀b t,K'' b=.root t→(keptT d m t=true∧b<w.heap.size∧(g.give m).K b=.prot∧(g.fil (keptR d m pin) (keptT d m)).K b=.root t)∨(∃u,t=outM d m u∧g'.K b=.root u):=fun b t hk=>by
  by_cases hb:b<w.heap.size∧(g.give m).K b=.prot
  ·rw[old b hb]at hk
   have h2:=Gh.fil_root.1 hk
   have hi:inM m t=none:=by
    cases hi:inM m t with
    |none=>rfl
    |some u=>have:(g.give m).K b=.root u:=Kd.ren_root.2 ⟨t,h2.1,hi⟩;rw[hb.2]at this;cases this
   have:keptT d m t=true:=by
    have h3:=h2.2
    unfold keptR at h3
    simp only[keptT,hi,Bool.and_eq_true]at h3⊢
    exact⟨h3.1,rfl⟩
   exact .inl ⟨this,hb.1,hb.2,hk⟩
  ·rw[nw b hb]at hk
   obtain⟨u,hu,e⟩:=Kd.ren_root.1 hk
   injection e with e
   exact .inr ⟨u,e.symm,hu⟩
 have from_t:∀b t,K'' b=.tail t→(keptT d m t=true∧(g.fil (keptR d m pin) (keptT d m)).K b=.tail t)∨(∃u,t=outM d m u∧g'.K b=.tail u):=fun b t hk=>by
  by_cases hb:b<w.heap.size∧(g.give m).K b=.prot
  ·rw[old b hb]at hk
   exact .inl ⟨(Gh.fil_tail.1 hk).2,hk⟩
  ·rw[nw b hb]at hk
   obtain⟨u,hu,e⟩:=Kd.ren_tail.1 hk
   injection e with e
   exact .inr ⟨u,e.symm,hu⟩
 have clash:∀u,keptT d m (outM d m u)=true→False:=fun u hu=>by
  simp only[keptT,Bool.and_eq_true,Option.isNone_iff_eq_none]at hu
  rcases outM_spec ok u with h|h
  ·rw[hu.2]at h;cases h
  ·rw[hu.1]at h;cases h
 refine⟨⟨g'.fr,K''⟩,?_,fun x v r=>RepA.ren rr x v r⟩
 refine⟨h1.size,h1.defers,fun t=>RepA.all k _ _ (h1.slots t),fun b t hk=>?_,fun b b' t hk hk'=>?_,fun b b' t hk hk'=>?_,fun b hb=>?_,fun b hb=>?_,h1.ext.trans hA.ext,
   ⟨hA.out.1.trans h1.out.1,hA.out.2.1.trans h1.out.2.1,hA.out.2.2.trans h1.out.2.2⟩,Nat.le_trans h1.mono hA.mono,hG.frb,fun b t hk ht=>?_⟩
 ·rcases from_r b t hk with ⟨ht,hb,hp,hk⟩|⟨u,rfl,hk2⟩
  ·obtain⟨cs,hl,h0,arr,T,hbh,hle,hc⟩:=h1.roots b t hk
   refine⟨cs,?_,(hA.frame b hb hp).2.1.trans h0,arr,T,(hA.frame b hb hp).1.trans hbh,hle,fun j x hj=>let⟨v,hv,e,r⟩:=hc j x hj;⟨v,hv,e,RepA.all k _ _ r⟩⟩
   show lookT (backR d m (dropR d m _) rs') t=_
   rw[backR_none ok ht,dropR_look ht];exact hl
  ·obtain⟨cs,hl,h0,arr,T,hbh,hle,hc⟩:=hG.roots b u hk2
   refine⟨_,backR_look ok hl,h0,arr,T,hbh,by simpa using hle,fun j x hj=>?_⟩
   simp only[List.getElem?_map,Option.map_eq_some_iff]at hj
   obtain⟨y,hy,rfl⟩:=hj
   obtain⟨v,hv,e,r⟩:=hc j y hy
   exact⟨v,hv,e,RepA.ren rr y v r⟩
 ·rcases from_r b t hk with ⟨ht,_,_,hk⟩|⟨u,rfl,hk2⟩
  ·rcases from_r b' t hk' with ⟨_,_,_,hk'⟩|⟨u',rfl,hk'⟩
   ·exact h1.ur b b' t hk hk'
   ·exact(clash _ ht).elim
  ·rcases from_r b' _ hk' with ⟨ht,_,_,hk'⟩|⟨u',e,hk'⟩
   ·exact(clash _ ht).elim
   ·have:=outM_inj ok e;subst this;exact hG.ur b b' _ hk2 hk'
 ·rcases from_t b t hk with ⟨ht,hk⟩|⟨u,rfl,hk2⟩
  ·rcases from_t b' t hk' with ⟨_,hk'⟩|⟨u',rfl,hk'⟩
   ·exact h1.ut b b' t hk hk'
   ·exact(clash _ ht).elim
  ·rcases from_t b' _ hk' with ⟨ht,hk'⟩|⟨u',e,hk'⟩
   ·exact(clash _ ht).elim
   ·have:=outM_inj ok e;subst this;exact hG.ut b b' _ hk2 hk'
 ·have hb':K'' b≠ .prot:=hb
  by_cases hc:b<w.heap.size∧(g.give m).K b=.prot
  ·rw[old b hc]at hb'
   exact⟨Nat.lt_of_lt_of_le hc.1 hA.mono,(h1.own b hb').2⟩
  ·rw[nw b hc]at hb'
   have hg':g'.K b≠ .prot:=fun e=>hb' (by rw[e];rfl)
   refine⟨hG.own b hg',?_⟩
   by_cases hlt:b<w.heap.size
   ·have:g.K b≠ .prot:=fun e=>hc ⟨hlt,by show(g.K b).ren _=.prot;rw[e];rfl⟩
    exact(h.own b this).2
   ·exact .inl (by have:=h.mono;omega)
 ·have hlt:=h.not_may_lt hb
  have hg:g.K b=.prot:=by
   rcases em (g.K b=.prot)with e|e
   ·exact e
   ·exact absurd (h.own b e).2 hb
  have hp:(g.give m).K b=.prot:=by show(g.K b).ren _=.prot;rw[hg];rfl
  exact⟨(hA.frame b hlt hp).1.trans (h.frame b hb).1,(hA.frame b hlt hp).2.1.trans (h.frame b hb).2⟩
 ·have hp:t∈S.pin:=ht
  exact⟨keepRoot b t (h.pins b t hk hp).1 (List.all_eq_true.1 hpin t hp),fun n hn=>keepBlk b t (h.pins b t hk hp).1 (List.all_eq_true.1 hpin t hp) n ((h.pins b t hk hp).2 n hn)⟩
def argN(m:List (Tok×Tok))(x:AV):AV:=match x with
 |.ag _=>match toP x with
  |some y=>.p y
  |none=>x.ren (inM m)
 |x=>x.ren (inM m)
def argsR(S:St)(m:List (Tok×Tok)):List Operand→Prop×List AV
 | []=>(True,[])
 |x::rest=>((unG (S.ev x)).1∧(argsR S m rest).1,argN m (unG (S.ev x)).2::(argsR S m rest).2)
theorem argN_spec {g:Gh} {w:World} {m:List (Tok×Tok)} {x:AV} {v:Value}(r:RepA g w x v):RepA (g.give m) w (argN m x) v:=by
 cases x with
 |ag xs=>
  simp only[argN]
  split
  ·rename_i y hy
   have:=toP_spec hy r
   simpa only[RepA,Gh.give]using this
  ·exact RepA.ren (Ren.give g m) _ _ r
 |_=>exact RepA.ren (Ren.give g m) _ _ r
theorem argsR_sound [Gi] {E:Ent} {S:St} {g:Gh} {a:Act} {w:World}(hS:SR E S g a w) {m:List (Tok×Tok)}:∀{ps:List Operand},(argsR S m ps).1→RepAL (g.give m) w (argsR S m ps).2 (ps.map a.eval)
 | [],h=>by simp[argsR,RepAL]
 |x::rest,h=>by
  simp only[argsR,List.map_cons,RepAL]at h⊢
  exact⟨_,_,rfl,argN_spec (unG_spec h.1 (hS.ev x)),argsR_sound hS h.2⟩
def CallK [Gi](P:Program)(S:St)(f:FuncId)(args:List Operand)(dst:Option Nat)(K:St→Prop):Prop:=
 ∃(m:List (Tok×Tok)) (pin:List Tok) (R:AV→List (Tok×List AV)→Prop),(okM (dst.getD S.n) m=true∧S.pin.all (keptR (dst.getD S.n) m pin)=true∧dOK S dst)∧(argsR S m args).1∧CR P f pin (argsR S m args).2 (rootsR S m m) R∧
  ∀x rs',R x rs'→K ((afterS S (dst.getD S.n) m pin rs').putD dst (x.ren fun u=>some (outM (dst.getD S.n) m u)))
def fnOf:AV→Option FuncId
 |.p (.opq (.func (.func f) a b))=>if a.size=0∧b.size=0 then some f else none
 |.gd true (.p (.opq (.func (.func f) a b)))=>if a.size=0∧b.size=0 then some f else none
 |_=>none
theorem fnOf_spec {g:Gh} {w:World} {x:AV} {v:Value} {f:FuncId}(hf:fnOf x=some f)(hr:RepA g w x v):v=.func (.func f) #[] #[]:=by
 unfold fnOf at hf
 split at hf
 ·rename_i f' p q
  split at hf
  ·rename_i hs
   injection hf with hf;subst hf
   have hp:p= #[]:=Array.eq_empty_of_size_eq_zero hs.1
   have hq:q= #[]:=Array.eq_empty_of_size_eq_zero hs.2
   subst hp;subst hq
   simpa only[RepA,RepP]using hr
  ·cases hf
 ·rename_i f' p q
  split at hf
  ·rename_i hs
   injection hf with hf;subst hf
   have hp:p= #[]:=Array.eq_empty_of_size_eq_zero hs.1
   have hq:q= #[]:=Array.eq_empty_of_size_eq_zero hs.2
   subst hp;subst hq
   simp only[RepA,RepP]at hr
   exact hr.1 trivial
  ·cases hf
 ·cases hf
def CallC [Gi](P:Program)(S:St)(f:FuncId)(cs:List AV)(args:List Operand)(dst:Option Nat)(K:St→Prop):Prop:=
 ∃(m:List (Tok×Tok)) (pin:List Tok) (R:AV→List (Tok×List AV)→Prop),(okM (dst.getD S.n) m=true∧S.pin.all (keptR (dst.getD S.n) m pin)=true∧dOK S dst)∧(argsR S m args).1∧CR P f pin ((argsR S m args).2++cs.map (argN m)) (rootsR S m m) R∧
  ∀x rs',R x rs'→K ((afterS S (dst.getD S.n) m pin rs').putD dst (x.ren fun u=>some (outM (dst.getD S.n) m u)))
def callA [Gi](P:Program)(S:St)(o:Oper)(K:St→Prop):Prop:=
 match o.op with
 |.call c=>
  match c.callee with
  |.value x=>
   match fnOf (S.ev x)with
   |some f=>(((P.funcs[f]?).map (·.body.isSome))=some true∧((P.funcs[f]?).map (·.name))≠some "runtime.NumGoroutine")∧CallK P S f c.args.toList o.dst K
   |none=>match(unG (S.ev x)).2 with
    |.fn f cs=>((((P.funcs[f]?).map (·.body.isSome))=some true∧((P.funcs[f]?).map (·.name))≠some "runtime.NumGoroutine")∧(unG (S.ev x)).1)∧CallC P S f cs c.args.toList o.dst K
    |_=>False
  |_=>False
 |.next x isS=>match isS,(unG (S.ev x)).2 with
  |false,.it t ks xs left _=>((unG (S.ev x)).1∧dOK S o.dst)∧(left=[]→K (S.putD o.dst (.tup [.p (.bool false)])))∧∀i∈left,K ((S.itz t (left.filter (· !=i)) (some i)).putD o.dst (.tup [.p (.bool true),.p (elemAt ks i),.p (elemAt xs i)]))
  |_,_=>False
 |_=>False
def growsA(S:St)(d:Nat)(x:AV):Bool:=
 match x with
 |.la _ _ _ _=>true
 |.ow _ _ _=>true
 |x=>isNilSl x&&S.rm.contains d
def appendH(P:Program)(S:St)(d:Nat)(sT xT:TypeId)(x y:AV):Prop×St:=if growsA S d x then appendG P S d sT xT x y else appendD P S d sT xT x y
theorem appendH_sound [Gi] {P:Program} {E:Ent} {S:St} {g:Gh} {a:Act} {w:World}(hS:SR E S g a w) {d:Nat} {sT xT tt:TypeId} {x y:AV} {u v:Value}(h:(appendH P S d sT xT x y).1)
  (rx:RepA g w x u) (ry:RepA g w y v):
  ∃r w' g',(Builtin.append_ #[sT,xT] tt #[u,v]).run P w=.ok r w'∧SR E (appendH P S d sT xT x y).2 g' (a.put (some d) r) w':=by
 unfold appendH at h⊢
 split at h
 ·rename_i hc;rw[if_pos hc];exact appendG_sound hS h rx ry
 ·rename_i hc;rw[if_neg hc];exact append_sound hS h rx ry
def effE(P:Program)(S:St)(o:Oper):Option (Prop×St):=
 match o.op with
 |.assign x=>some (assignE P S o.dst o.type (S.ev x))
 |.alloc T=>some (allocE P S o.dst T)
 |.box _ x=>some (boxE S o.dst x)
 |.store T x y=>some ((((unG (S.ev x)).1∧(unG (S.ev y)).1)∧o.dst=none)∧(storeE P S T (unG (S.ev x)).2 (unG (S.ev y)).2).1,(storeE P S T (unG (S.ev x)).2 (unG (S.ev y)).2).2)
 |.buildSlice T n parts=>match o.dst with
  |some d=>some (if(partsA S parts.toList).2.isNone then buildRootD P S d T n parts.toList else buildSliceD P S d T n parts.toList)
  |none=>none
 |.call c=>match c.callee,c.args.toList,c.argTypes.toList,o.dst with
  |.builtin .append,[x,y],[sT,xT],some d=>some (((unG (S.ev x)).1∧(unG (S.ev y)).1)∧(appendH P S d sT xT (unG (S.ev x)).2 (unG (S.ev y)).2).1,(appendH P S d sT xT (unG (S.ev x)).2 (unG (S.ev y)).2).2)
  |.builtin .copy,[x,y],[sT,_],dst=>some ((((unG (S.ev x)).1∧(unG (S.ev y)).1)∧dOK S dst)∧(copyD P S sT (unG (S.ev x)).2 (unG (S.ev y)).2).1,(copyD P S sT (unG (S.ev x)).2 (unG (S.ev y)).2).2.2.putD dst (.p (.int .i64 (copyD P S sT (unG (S.ev x)).2 (unG (S.ev y)).2).2.1)))
  |.builtin .clear,[x],[sT],none=>some ((unG (S.ev x)).1∧(clearD P S sT (unG (S.ev x)).2).1,(clearD P S sT (unG (S.ev x)).2).2)
  |_,_,_,_=>none
 |.makeSlice T l c=>match o.dst with
  |some d=>some (((unG (S.ev l)).1∧(unG (S.ev c)).1)∧(makeSliceD P S d T (unG (S.ev l)).2 (unG (S.ev c)).2).1,(makeSliceD P S d T (unG (S.ev l)).2 (unG (S.ev c)).2).2)
  |none=>none
 |.convert s t x=>match o.dst with
  |some d=>some ((unG (S.ev x)).1∧(sbD P S d s t (unG (S.ev x)).2).1,(sbD P S d s t (unG (S.ev x)).2).2)
  |none=>none
 |.mapEntry T m k=>match o.dst with
  |some d=>some (((unG (S.ev m)).1∧(unG (S.ev k)).1)∧(mapEntD P S d T (unG (S.ev m)).2 (unG (S.ev k)).2).1,(mapEntD P S d T (unG (S.ev m)).2 (unG (S.ev k)).2).2)
  |none=>none
 |.entryStore _ m s x=>some ((((unG (S.ev m)).1∧(unG (S.ev s)).1∧(unG (S.ev x)).1)∧o.dst=none)∧(entStE S (unG (S.ev m)).2 (unG (S.ev s)).2 (unG (S.ev x)).2).1,(entStE S (unG (S.ev m)).2 (unG (S.ev s)).2 (unG (S.ev x)).2).2)
 |.range T x=>match o.dst with
  |some d=>some ((unG (S.ev x)).1∧(rangeD P S d T (unG (S.ev x)).2).1,(rangeD P S d T (unG (S.ev x)).2).2)
  |none=>none
 |.entry x=>some (((unG (S.ev x)).1∧dOK S o.dst)∧(entryR (unG (S.ev x)).2).1,S.putD o.dst (entryR (unG (S.ev x)).2).2)
 |.makeMap _ none=>match o.dst with
  |some d=>some (makeMapD S d)
  |none=>none
 |.insert T m k x=>some ((((unG (S.ev m)).1∧(unG (S.ev k)).1∧(unG (S.ev x)).1)∧o.dst=none)∧(mapUpdE P S T (unG (S.ev m)).2 (unG (S.ev k)).2 (unG (S.ev x)).2).1,(mapUpdE P S T (unG (S.ev m)).2 (unG (S.ev k)).2 (unG (S.ev x)).2).2)
 |.mapUpdate T m k x=>some ((((unG (S.ev m)).1∧(unG (S.ev k)).1∧(unG (S.ev x)).1)∧o.dst=none)∧(mapUpdE P S T (unG (S.ev m)).2 (unG (S.ev k)).2 (unG (S.ev x)).2).1,(mapUpdE P S T (unG (S.ev m)).2 (unG (S.ev k)).2 (unG (S.ev x)).2).2)
 |_=>none
theorem copyD_n(P:Program)(S:St)(T:TypeId)(x y:AV):(copyD P S T x y).2.2.n=S.n:=by
 unfold copyD
 split
 ·split<;>rfl
 ·rfl
theorem eff_sound [Gi] {P:Program} {E:Ent} {S:St} {g:Gh} {a:Act} {w:World}(hS:SR E S g a w) {o:Oper} {r:Prop×St}(e:effE P S o=some r)(h:r.1):
  ∃v w' g',Ran P o a w v w'∧SR E r.2 g' (a.put o.dst v) w':=by
 obtain⟨dst,op,tt,pos,after,guard⟩:=o
 unfold effE at e
 cases op with
 |assign x=>
  simp only[Option.some.injEq]at e;subst e
  exact assignE_sound (o:=⟨dst,.assign x,tt,pos,after,guard⟩) hS rfl h
 |alloc T=>
  simp only[Option.some.injEq]at e;subst e
  exact allocE_sound (o:=⟨dst,.alloc T,tt,pos,after,guard⟩) hS rfl h
 |box T x=>
  simp only[Option.some.injEq]at e;subst e
  exact boxE_sound (o:=⟨dst,.box T x,tt,pos,after,guard⟩) hS rfl h
 |store T x y=>
  simp only[Option.some.injEq]at e;subst e
  obtain⟨⟨⟨h1,h2⟩,h3⟩,h4⟩:=h
  have h3:dst=none:=h3
  subst h3
  obtain⟨w',g',k1,k2⟩:=storeE_sound (P:=P) hS h4 (unG_spec h1 (hS.ev x)) (unG_spec h2 (hS.ev y))
  refine⟨undef,w',g',.inr ⟨?_,rfl⟩,k2⟩
  simp only[execOp,Sem.run_bind,k1,Result.andThen_ok,Sem.run_pure]
 |buildSlice T n parts=>
  cases dst with
  |none=>simp at e
  |some d=>
   simp only[Option.some.injEq]at e;subst e
   split at h
   ·rename_i hc
    rw[if_pos hc]
    obtain⟨r,w',g',k1,k2⟩:=buildRoot_sound (P:=P) hS h
    exact⟨r,w',g',.inl (run_value k1),k2⟩
   ·rename_i hc
    rw[if_neg hc]
    obtain⟨r,w',g',k1,k2⟩:=buildSlice_sound (P:=P) hS h
    exact⟨r,w',g',.inl (run_value k1),k2⟩
 |call c=>
  obtain⟨callee,args,argTypes⟩:=c
  simp only[]at e
  split at e
  ·rename_i x y sT xT d h1 h2
   simp only[Option.some.injEq]at e;subst e
   have ha:args= #[x,y]:=by rw[←Array.toArray_toList (xs:=args),h1]
   have ht:argTypes= #[sT,xT]:=by rw[←Array.toArray_toList (xs:=argTypes),h2]
   subst ha;subst ht
   obtain⟨r,w',g',k1,k2⟩:=appendH_sound (P:=P) (tt:=tt) hS h.2 (unG_spec h.1.1 (hS.ev x)) (unG_spec h.1.2 (hS.ev y))
   refine⟨r,w',g',.inl (run_value ?_),k2⟩
   have hm:Array.map a.eval #[x,y]= #[a.eval x,a.eval y]:=by simp
   simp only[hm]
   exact k1
  ·rename_i d x y sT xT h1 h2
   simp only[Option.some.injEq]at e;subst e
   have ha:args= #[x,y]:=by rw[←Array.toArray_toList (xs:=args),h1]
   have ht:argTypes= #[sT,xT]:=by rw[←Array.toArray_toList (xs:=argTypes),h2]
   subst ha;subst ht
   obtain⟨w',g',k1,k2⟩:=copy_sound (P:=P) (T':=xT) (tt:=tt) hS h.2 (unG_spec h.1.1.1 (hS.ev x)) (unG_spec h.1.1.2 (hS.ev y))
   refine⟨.int .i64 (copyD P S sT (unG (S.ev x)).2 (unG (S.ev y)).2).2.1,w',g',.inl (run_value ?_),k2.putD (by simp only[RepA,RepP]) ?_⟩
   ·have hm:Array.map a.eval #[x,y]= #[a.eval x,a.eval y]:=by simp
    simp only[hm]
    exact k1
   ·have:=h.1.2
    unfold dOK at this⊢
    rw[copyD_n];exact this
  ·rename_i x sT h1 h2
   simp only[Option.some.injEq]at e;subst e
   have ha:args= #[x]:=by rw[←Array.toArray_toList (xs:=args),h1]
   have ht:argTypes= #[sT]:=by rw[←Array.toArray_toList (xs:=argTypes),h2]
   subst ha;subst ht
   obtain⟨w',g',k1,k2⟩:=clear_sound (P:=P) (tt:=tt) hS h.2 (unG_spec h.1 (hS.ev x))
   refine⟨.tuple #[],w',g',.inl (run_value ?_),k2⟩
   have hm:Array.map a.eval #[x]= #[a.eval x]:=by simp
   simp only[hm]
   exact k1
  ·cases e
 |convert s t x=>
  cases dst with
  |none=>simp at e
  |some d=>
   simp only[Option.some.injEq]at e;subst e
   obtain⟨r,w',g',k1,k2⟩:=sb_sound (P:=P) hS h.2 (unG_spec h.1 (hS.ev x))
   exact⟨r,w',g',.inl (run_value k1),k2⟩
 |mapEntry T m k=>
  cases dst with
  |none=>simp at e
  |some d=>
   simp only[Option.some.injEq]at e;subst e
   obtain⟨r,w',g',k1,k2⟩:=mapEntD_sound (P:=P) hS h.2 (unG_spec h.1.1 (hS.ev m)) (unG_spec h.1.2 (hS.ev k))
   exact⟨r,w',g',.inl (run_value k1),k2⟩
 |entryStore T m s x=>
  simp only[Option.some.injEq]at e;subst e
  obtain⟨⟨⟨h1,h2,h3⟩,h4⟩,h5⟩:=h
  have h4:dst=none:=h4
  subst h4
  obtain⟨w',g',k1,k2⟩:=entStE_sound (P:=P) (T:=T) hS h5 (unG_spec h1 (hS.ev m)) (unG_spec h2 (hS.ev s)) (unG_spec h3 (hS.ev x))
  refine⟨undef,w',g',.inr ⟨?_,rfl⟩,k2⟩
  simp only[execOp,Sem.run_bind,k1,Result.andThen_ok,Sem.run_pure]
 |range T x=>
  cases dst with
  |none=>simp at e
  |some d=>
   simp only[Option.some.injEq]at e;subst e
   obtain⟨r,w',g',k1,k2⟩:=rangeD_sound (P:=P) hS h.2 (unG_spec h.1 (hS.ev x))
   exact⟨r,w',g',.inl (run_value k1),k2⟩
 |entry x=>
  simp only[Option.some.injEq]at e;subst e
  obtain⟨v,k1,k2⟩:=entryR_sound (P:=P) h.2 (unG_spec h.1.1 (hS.ev x))
  exact⟨v,w,g,.inl (run_value k1),hS.putD k2 h.1.2⟩
 |makeMap T r=>
  cases r with
  |some r=>cases e
  |none=>
   cases dst with
   |none=>simp at e
   |some d=>
    simp only[Option.some.injEq]at e;subst e
    obtain⟨r,w',g',k1,k2⟩:=makeMapD_sound (P:=P) (T:=T) hS h
    exact⟨r,w',g',.inl (run_value k1),k2⟩
 |insert T m k x=>
  simp only[Option.some.injEq]at e;subst e
  obtain⟨⟨⟨h1,h2,h3⟩,h4⟩,h5⟩:=h
  have h4:dst=none:=h4
  subst h4
  obtain⟨w',g',k1,k2⟩:=mapUpdE_sound (P:=P) hS h5 (unG_spec h1 (hS.ev m)) (unG_spec h2 (hS.ev k)) (unG_spec h3 (hS.ev x))
  refine⟨undef,w',g',.inr ⟨?_,rfl⟩,k2⟩
  simp only[execOp,Sem.run_bind,k1,Result.andThen_ok,Sem.run_pure]
 |mapUpdate T m k x=>
  simp only[Option.some.injEq]at e;subst e
  obtain⟨⟨⟨h1,h2,h3⟩,h4⟩,h5⟩:=h
  have h4:dst=none:=h4
  subst h4
  obtain⟨w',g',k1,k2⟩:=mapUpdE_sound (P:=P) hS h5 (unG_spec h1 (hS.ev m)) (unG_spec h2 (hS.ev k)) (unG_spec h3 (hS.ev x))
  refine⟨undef,w',g',.inr ⟨?_,rfl⟩,k2⟩
  simp only[execOp,Sem.run_bind,k1,Result.andThen_ok,Sem.run_pure]
 |makeSlice T l c=>
  cases dst with
  |none=>simp at e
  |some d=>
   simp only[Option.some.injEq]at e;subst e
   obtain⟨r,w',g',k1,k2⟩:=makeSlice_sound (P:=P) hS h.2 (unG_spec h.1.1 (hS.ev l)) (unG_spec h.1.2 (hS.ev c))
   exact⟨r,w',g',.inl (run_value k1),k2⟩
 |_=>cases e
def effK [Gi](P:Program)(S:St)(o:Oper)(K:St→Prop):Prop:=
 match effE P S o with
 |some r=>r.1∧K r.2
 |none=>callA P S o K
def stepA [Gi](P:Program)(S:St)(o:Oper)(c:Option Bool)(K:St→Prop):Prop:=
 match pureA P S o with
 |some r=>
  match c with
  |none=>(r.1∧dOK S o.dst)∧K (S.putD o.dst r.2)
  |some c=>((c=true→r.1)∧dOK S o.dst)∧K (S.putD o.dst (.gd c r.2))
 |none=>
  match c with
  |none=>effK P S o K
  |some c=>(c=true→effK P S o K)∧(c=false→dOK S o.dst∧K (S.putD o.dst (.gd false .junk)))
def guardV(x:AV)(want:Bool):Option Bool:=
 match x with
 |.p (.bool b)=>some (b==want)
 |.gd c (.p (.bool b))=>some (c&&(b==want))
 |.gd false _=>some false
 |_=>none
def guardA(ops:Array Oper)(S:St)(o:Oper):Option (Option Bool):=
 match o.guard with
 |none=>some none
 |some (j,want)=>
  match(ops[j]?).bind (·.dst)with
  |some t=>(guardV (S.get t) want).map some
  |none=>none
def opsA [Gi](P:Program)(ops:Array Oper):List Oper→St→(St→Prop)→Prop
 | [],S,K=>K S
 |o::rest,S,K=>
  match guardA ops S o with
  |some c=>stepA P S o c fun S'=>opsA P ops rest S' K
  |none=>False
theorem callFunc_enter {P:Program} {w:World} {f:FuncId} {args:Array Value}(h:((P.funcs[f]?).map (·.body.isSome))=some true)(hn:((P.funcs[f]?).map (·.name))≠some "runtime.NumGoroutine"):
  (callFunc f args).run P w=.ok (.enter f args) w:=by
 cases hf:P.funcs[f]? with
 |none=>rw[hf]at h;cases h
 |some fn=>
  rw[hf]at h hn
  simp at h hn
  unfold callFunc
  simp only[Sem.run_bind,run_program,Result.andThen_ok,hf]
  rw[if_neg (by simpa using hn)]
  have h':fn.body.isNone=false:=by
   cases hb:fn.body with
   |none=>rw[hb]at h;simp at h
   |some c=>rfl
  rw[h']
  rfl
theorem effK_sound [Gi] {P:Program} {E:Ent} {S:St} {g:Gh} {a:Act} {w:World}(hS:SR E S g a w) {o:Oper} {K:St→Prop} {next:Act→World→Prop} {Q:Exit→Act→World→Prop}(h:effK P S o K)
  (hK:∀S' g' a' w',K S'→SR E S' g' a' w'→next a' w'):o.wp P a w next Q:=by
 unfold effK at h
 cases he:effE P S o with
 |some r=>
  simp only[he]at h
  obtain⟨v,w',g',hr,hs⟩:=eff_sound hS he h.1
  unfold Oper.wp
  rcases hr with hr|⟨hr,rfl⟩
  ·rw[hr];exact hK _ _ _ _ h.2 hs
  ·rw[hr];exact hK _ _ _ _ h.2 hs
 |none=>
  simp only[he]at h
  unfold callA at h
  obtain⟨dst,op,tt,pos,after,guard⟩:=o
  split at h
  ·rename_i c e1
   simp only[]at e1
   subst e1
   obtain⟨callee,args,argTypes⟩:=c
   simp only[]at h
   split at h
   ·rename_i x
    split at h
    ·rename_i f hf
     obtain⟨⟨hb,hn⟩,m,pin,R,⟨hok,hpn,hd⟩,h1,hCR,hR⟩:=h
     have hfv:a.eval x=.func (.func f) #[] #[]:=fnOf_spec hf (hS.ev x)
     have hargs:=argsR_sound hS h1
     have hcall:=hCR w (g.give m) (args.toList.map a.eval) hargs (hS.give hok)
     have hrun:(execOp a.eval ⟨dst,.call ⟨.value x,args,argTypes⟩,tt,pos,after,guard⟩).run P w=.ok (.enter f (args.toList.map a.eval).toArray) w:=by
      simp only[execOp,resolve,hfv,Deferred.ofValue,Sem.run_bind,Sem.run_pure,Result.andThen_ok,invoke]
      rw[callFunc_enter hb hn]
      congr 2
      apply Array.ext'
      simp
     unfold Oper.wp
     rw[hrun]
     refine hcall.mono ?_
     rintro e w' ⟨v,x,rs',g',rfl,hRx,hrep,hG,hA⟩
     have hKx:=hR x rs' hRx
     obtain⟨g'',k1,k2⟩:=hS.afterCall hok hpn hG hA
     exact hK _ _ _ _ hKx (k1.putD (k2 _ _ hrep) hd)
    ·split at h
     ·rename_i f cs hf
      obtain⟨⟨⟨hb,hn⟩,hu⟩,m,pin,R,⟨hok,hpn,hd⟩,h1,hCR,hR⟩:=h
      have hr:=unG_spec hu (hS.ev x)
      rw[hf]at hr
      simp only[RepA]at hr
      obtain⟨us,hfv,hus⟩:=hr
      have hargs:RepAL (g.give m) w ((argsR S m args.toList).2++cs.map (argN m)) (args.toList.map a.eval++us.toList):=
       RepAL.append (argsR_sound hS h1) (RepAL.map _ (fun _ _=>argN_spec) cs _ hus)
      have hcall:=hCR w (g.give m) (args.toList.map a.eval++us.toList) hargs (hS.give hok)
      have hrun:(execOp a.eval ⟨dst,.call ⟨.value x,args,argTypes⟩,tt,pos,after,guard⟩).run P w=.ok (.enter f (args.toList.map a.eval++us.toList).toArray) w:=by
       simp only[execOp,resolve,hfv,Deferred.ofValue,Sem.run_bind,Sem.run_pure,Result.andThen_ok,invoke]
       rw[callFunc_enter hb hn]
       congr 2
       apply Array.ext'
       simp
      unfold Oper.wp
      rw[hrun]
      refine hcall.mono ?_
      rintro e w' ⟨v,x,rs',g',rfl,hRx,hrep,hG,hA⟩
      have hKx:=hR x rs' hRx
      obtain⟨g'',k1,k2⟩:=hS.afterCall hok hpn hG hA
      exact hK _ _ _ _ hKx (k1.putD (k2 _ _ hrep) hd)
     ·exact h.elim
   ·exact h.elim
  ·rename_i x isS e1
   simp only[]at e1
   subst e1
   split at h
   ·rename_i t ks xs left cur hx
    obtain⟨⟨hu,hd⟩,h1,h2⟩:=h
    have hr:=unG_spec hu (hS.ev x)
    rw[hx]at hr
    unfold Oper.wp
    rcases next_sound (P:=P) (T:=tt) hS hr with ⟨hl,hrun⟩|⟨i,hi,w',k,v,hrun,hs,hk,hv⟩
    ·have hrun':(execOp a.eval ⟨dst,.next x false,tt,pos,after,guard⟩).run P w=.ok (.value (.tuple #[.bool false])) w:=run_value hrun
     rw[hrun']
     exact hK _ _ _ _ (h1 hl) (hS.putD (by simp only[RepA];exact⟨_,rfl,by simp[RepAL,RepA,RepP]⟩) hd)
    ·have hrun':(execOp a.eval ⟨dst,.next x false,tt,pos,after,guard⟩).run P w=.ok (.value (.tuple #[.bool true,k,v])) w':=run_value hrun
     rw[hrun']
     exact hK _ _ _ _ (h2 i hi) (hs.putD (by
      simp only[RepA]
      refine⟨_,rfl,?_⟩
      simp only[RepAL]
      exact⟨_,_,rfl,by simp only[RepA,RepP],_,_,rfl,by simp only[RepA];exact hk,_,_,rfl,by simp only[RepA];exact hv,rfl⟩) hd)
   ·exact h.elim
  ·exact h.elim
end Go.AM
end
