/- A part of this seat's proofs, by an abstract machine. Conditions: each law's. -/
import Derived.Test.YtfjdbbpimklecaaGreatDoorT08
import Derived.Test.YtfjdbbpimklecaaGreatDoorT09
namespace Go.AM
section
structure GS [Gi](g:Gh)(w:World)(rs:List (Tok×List AV)):Prop where
 roots:∀b t,g.K b=.root t→∃cs,zn rs t=some cs∧zjp g w b cs
 ur:∀b b' t,g.K b=.root t→g.K b'=.root t→b=b'
 ut:∀b b' t,g.K b=.tail t→g.K b'=.tail t→b=b'
 own:∀b,g.K b≠ .prot→b<w.heap.size
 frb:∀b,w.heap.size≤b→g.fr b=0
 gl:Y1 g w
structure Aft(g:Gh)(w:World)(g':Gh)(w':World)(pin:List Tok):Prop where
 frame:∀b,b<w.heap.size→g.K b=.prot→w'.heap[b]?=w.heap[b]?∧g'.fr b=g.fr b∧g'.K b=.prot
 ext:Ext g.fr w g'.fr w'
 out:w'.os=w.os∧w'.tape=w.tape∧w'.output=w.output
 mono:w.heap.size≤w'.heap.size
 pins:∀b t,g.K b=.root t→t∈pin→g'.K b=.root t∧∀n,Blk w b n→Blk w' b n
theorem Y1.aft [Gi] {g g':Gh} {w w':World} {pin:List Tok}(h:Y1 g w)(k:Aft g w g' w' pin):Y1 g' w':=fun b arr e=>by
 obtain⟨hk,T,f,hb⟩:=h b arr e
 obtain⟨h1,_,h3⟩:=k.frame b (Array.getElem?_eq_some_iff.1 hb).1 hk
 exact⟨h3,T,f,h1.trans hb⟩
def CR [Gi](P:Program)(f:FuncId)(pin:List Tok)(args:List AV)(rs:List (Tok×List AV))(R:AV→List (Tok×List AV)→Prop):Prop:=
 ∀(w:World) (g:Gh) (vs:List Value),zo g w args vs→GS g w rs→Calls P f vs.toArray w fun e w'=>
  ∃v x rs' g',e=.returned v∧R x rs'∧zb g' w' x v∧GS g' w' rs'∧Aft g w g' w' pin
theorem CR.mono [Gi] {P:Program} {f:FuncId} {pin:List Tok} {args:List AV} {rs:List (Tok×List AV)} {R R':AV→List (Tok×List AV)→Prop}(h:CR P f pin args rs R)(hr:∀x rs',R x rs'→R' x rs'):CR P f pin args rs R':=
 fun w g vs h1 h2=>(h w g vs h1 h2).mono fun _ _ ⟨v,x,rs',g',e,r,rest⟩=>⟨v,x,rs',g',e,hr _ _ r,rest⟩
def yf(f:Tok→Option Tok):AV→AV
 |.lp t o=>match f t with
  |some u=>.lp u o
  |none=>.zY
 |.la t z o n=>match f t with
  |some u=>.la u z o n
  |none=>.zY
 |.os t z es=>match f t with
  |some u=>.os u z es
  |none=>.p (.sl z es)
 |.om t ks xs=>match f t with
  |some u=>.om u ks xs
  |none=>.zY
 |.ow t z es=>match f t with
  |some u=>.ow u z es
  |none=>.zY
 |.bb t T l=>match f t with
  |some u=>.bb u T l
  |none=>.zY
 |.bz t T m=>match f t with
  |some u=>.bz u T m
  |none=>.zY
 |.st t j=>match f t with
  |some u=>.st u j
  |none=>.zY
 |.it t ks xs l c=>match f t with
  |some u=>.it u ks xs l c
  |none=>.zY
 |.tup _=>.zY
 |.gd _ _=>.zY
 |.ag _=>.zY
 |.fn _ _=>.zY
 |x=>x
def KK(f:Tok→Option Tok):AV→AV
 |.ag xs=>.ag (xs.map (yf f))
 |.fn c xs=>.fn c (xs.map (yf f))
 |x=>yf f x
def AV.ren(f:Tok→Option Tok)(x:AV):AV:=x.upd (KK f)
structure Ren(g:Gh)(g':Gh)(f:Tok→Option Tok):Prop where
 fr:g'.fr=g.fr
 kr:∀b t u,f t=some u→g.K b=.root t→g'.K b=.root u
 kt:∀b t u,f t=some u→g.K b=.tail t→g'.K b=.tail u
theorem zb.yf {g g':Gh} {w:World} {f:Tok→Option Tok}(k:Ren g g' f)(x:AV)(v:Value)(r:zb g w x v):zb g' w (yf f x) v:=by
 cases x with
 |p x=>simp only[AM.yf,zb]at r⊢;rw[k.fr];exact r
 |os t z es=>
  simp only[zb]at r
  simp only[AM.yf]
  split
  ·rename_i u hu
   simp only[zb]
   rw[k.fr]
   refine⟨r.1,r.2.imp id ?_⟩
   rintro⟨b,o,len,cap,e,hk,hf,hb⟩
   exact⟨b,o,len,cap,e,k.kt b t u hu hk,hf,hb⟩
  ·simp only[zb];rw[k.fr];exact r.1
 |om t ks xs=>
  simp only[AM.yf]
  split
  ·rename_i u hu
   simp only[zb]at r⊢
   obtain⟨b,arr,c,e,hk,rest⟩:=r
   rw[k.fr]
   exact⟨b,arr,c,e,k.kt b t u hu hk,rest⟩
  ·simp only[zb]
 |ow t z es=>
  simp only[AM.yf]
  split
  ·rename_i u hu
   simp only[zb]at r⊢
   exact r
  ·simp only[zb]
 |lp t o=>
  simp only[AM.yf]
  split
  ·rename_i u hu
   simp only[zb]at r⊢
   obtain⟨b,hk,e⟩:=r
   exact⟨b,k.kr b t u hu hk,e⟩
  ·simp only[zb]
 |la t z o n=>
  simp only[AM.yf]
  split
  ·rename_i u hu
   simp only[zb]at r⊢
   obtain⟨b,o',cap,hk,e,hn⟩:=r
   exact⟨b,o',cap,k.kr b t u hu hk,e,hn⟩
  ·simp only[zb]
 |bz t T m=>
  simp only[AM.yf]
  split
  ·rename_i u hu
   simp only[zb]at r⊢
   obtain⟨b,hk,hb,e⟩:=r
   exact⟨b,k.kr b t u hu hk,hb,e⟩
  ·simp only[zb]
 |bb t T l=>
  simp only[AM.yf]
  split
  ·rename_i u hu
   simp only[zb]at r⊢
   rw[k.fr]
   refine r.imp id ?_
   rintro⟨b,cap,arr,e,hk,rest⟩
   exact⟨b,cap,arr,e,k.kt b t u hu hk,rest⟩
  ·simp only[zb]
 |st t j=>
  simp only[AM.yf]
  split
  ·rename_i u hu
   simp only[zb]at r⊢
   obtain⟨b,arr,c,e,hk,rest⟩:=r
   exact⟨b,arr,c,e,k.kt b t u hu hk,rest⟩
  ·simp only[zb]
 |it t ks xs l c=>
  simp only[AM.yf]
  split
  ·rename_i u hu
   simp only[zb]at r⊢
   rw[k.fr]
   obtain⟨b,bm,since,seen,c0,arr,clock,e,hk,rest⟩:=r
   exact⟨b,bm,since,seen,c0,arr,clock,e,k.kt b t u hu hk,rest⟩
  ·simp only[zb]
 |ip z e o=>simp only[AM.yf,zb]at r⊢;rw[k.fr];exact r
 |_=>simp only[AM.yf,zb]
theorem zb.KK {g g':Gh} {w:World} {f:Tok→Option Tok}(k:Ren g g' f)(x:AV)(v:Value)(r:zb g w x v):zb g' w (KK f x) v:=by
 cases x with
 |ag xs=>
  simp only[AM.KK,zb]at r⊢
  obtain⟨vs,e,h1,r⟩:=r
  exact⟨vs,e,h1,zo.map _ (zb.yf k) xs _ r⟩
 |fn c xs=>
  simp only[AM.KK,zb]at r⊢
  obtain⟨vs,e,r⟩:=r
  exact⟨vs,e,zo.map _ (zb.yf k) xs _ r⟩
 |_=>exact zb.yf k _ v r
theorem zb.ren {g g':Gh} {w:World} {f:Tok→Option Tok}(k:Ren g g' f)(x:AV)(v:Value)(r:zb g w x v):zb g' w (x.ren f) v:=by
 cases x with
 |tup xs=>
  simp only[AV.ren,AV.upd,zb]at r⊢
  obtain⟨vs,e,r⟩:=r
  exact⟨vs,e,zo.map _ (zb.KK k) xs _ r⟩
 |gd c x=>
  simp only[AV.ren,AV.upd,zb]at r⊢
  exact⟨fun hc=>zb.KK k x v (r.1 hc),r.2⟩
 |_=>exact zb.KK k _ v r
def inM:List (Tok×Tok)→Tok→Option Tok
 | [],_=>none
 |(u,t)::m,x=>if t=x then some u else inM m x
def Q8(d:Nat)(m:List (Tok×Tok))(u:Tok):Tok:=match zn m u with
 |some t=>t
 |none=>d::u
def zS(d:Nat):Tok→Bool
 | []=>true
 |k::_=>k !=d
def okM(d:Nat):List (Tok×Tok)→Bool
 | []=>true
 |(u,t)::m=>(zn m u).isNone&&(inM m t).isNone&&zS d t&&okM d m
theorem Qg {d:Nat}:∀{m:List (Tok×Tok)},okM d m=true→∀{t u:Tok},inM m t=some u→zn m u=some t
 | [],_,t,u,h=>by simp[inM]at h
 |(u0,t0)::m,ok,t,u,h=>by
  simp only[okM,Bool.and_eq_true,Option.isNone_iff_eq_none]at ok
  simp only[inM]at h
  simp only[zn]
  split at h
  ·rename_i e;injection h with h;subst e;subst h;simp
  ·have ih:=Qg ok.2 h
   split
   ·rename_i e;subst e;rw[ok.1.1.1]at ih;cases ih
   ·exact ih
theorem xN {d:Nat}:∀{m:List (Tok×Tok)},okM d m=true→∀{t u:Tok},zn m u=some t→inM m t=some u∧zS d t=true
 | [],_,t,u,h=>by simp[zn]at h
 |(u0,t0)::m,ok,t,u,h=>by
  simp only[okM,Bool.and_eq_true,Option.isNone_iff_eq_none]at ok
  simp only[zn]at h
  simp only[inM]
  split at h
  ·rename_i e;injection h with h;subst e;subst h;simp[ok.1.2]
  ·have ih:=xN ok.2 h
   split
   ·rename_i e;subst e;rw[ok.1.1.2]at ih;cases ih.1
   ·exact ih
theorem JQ {d:Nat} {m:List (Tok×Tok)}(ok:okM d m=true) {u u':Tok}(h:Q8 d m u=Q8 d m u'):u=u':=by
 unfold Q8 at h
 cases h1:zn m u with
 |some t=>
  rw[h1]at h
  cases h2:zn m u' with
  |some t'=>
   rw[h2]at h
   simp only[]at h
   subst h
   have a1:=(xN ok h1).1
   have a2:=(xN ok h2).1
   rw[a1]at a2;injection a2
  |none=>
   rw[h2]at h
   simp only[]at h
   have:=(xN ok h1).2
   rw[h]at this;simp[zS]at this
 |none=>
  rw[h1]at h
  cases h2:zn m u' with
  |some t'=>
   rw[h2]at h
   simp only[]at h
   have:=(xN ok h2).2
   rw[←h]at this;simp[zS]at this
  |none=>
   rw[h2]at h
   simp only[]at h
   injection h
theorem zaa {d:Nat} {m:List (Tok×Tok)}(ok:okM d m=true)(u:Tok):inM m (Q8 d m u)=some u∨zS d (Q8 d m u)=false:=by
 unfold Q8
 cases h1:zn m u with
 |some t=>exact .inl (xN ok h1).1
 |none=>exact .inr (by simp[zS])
def qW(S:St)(m:List (Tok×Tok)):List (Tok×Tok)→List (Tok×List AV)
 | []=>[]
 |(u,t)::l=>match zn S.rs t with
  |some cs=>(u,cs.map (AV.ren (inM m)))::qW S m l
  |none=>qW S m l
theorem vP {S:St} {m0:List (Tok×Tok)}:∀{m:List (Tok×Tok)} {t u:Tok} {cs:List AV},zn m u=some t→zn S.rs t=some cs→zn (qW S m0 m) u=some (cs.map (AV.ren (inM m0)))
 | [],t,u,cs,h,_=>by simp[zn]at h
 |(u0,t0)::m,t,u,cs,h,hl=>by
  simp only[zn]at h
  unfold qW
  split at h
  ·rename_i e;injection h with h;subst e;subst h
   rw[hl];simp[zn]
  ·rename_i e
   have ih:=vP (m0:=m0) h hl
   split
   ·simp only[zn,if_neg e];exact ih
   ·exact ih
def Zq(d:Nat)(m:List (Tok×Tok))(pin:List Tok)(t:Tok):Bool:=zS d t&&match inM m t with
 |none=>true
 |some u=>pin.contains u
def Zw(d:Nat)(m:List (Tok×Tok))(t:Tok):Bool:=zS d t&&(inM m t).isNone
def ja(d:Nat)(m:List (Tok×Tok)):List (Tok×List AV)→List (Tok×List AV)
 | []=>[]
 |(t,cs)::l=>if Zw d m t then(t,cs)::ja d m l else ja d m l
def vj(d:Nat)(m:List (Tok×Tok))(rest:List (Tok×List AV)):List (Tok×List AV)→List (Tok×List AV)
 | []=>rest
 |(u,cs)::l=>(Q8 d m u,cs.map (AV.ren fun u=>some (Q8 d m u)))::vj d m rest l
theorem Wq {d:Nat} {m:List (Tok×Tok)} {t:Tok}(ht:Zw d m t=true):∀l:List (Tok×List AV),zn (ja d m l) t=zn l t
 | []=>rfl
 |(u,cs)::l=>by
  unfold ja
  split
  ·simp only[zn,Wq ht l]
  ·rename_i h
   simp only[zn,Wq ht l]
   split
   ·rename_i e;subst e;exact absurd ht h
   ·rfl
theorem Yd {d:Nat} {m:List (Tok×Tok)}(ok:okM d m=true) {rest:List (Tok×List AV)} {t:Tok}(ht:Zw d m t=true):∀l:List (Tok×List AV),zn (vj d m rest l) t=zn rest t
 | []=>rfl
 |(u,cs)::l=>by
  simp only[vj,zn]
  split
  ·rename_i e
   simp only[Zw,Bool.and_eq_true,Option.isNone_iff_eq_none]at ht
   rcases zaa ok u with h|h
   ·rw[e,ht.2]at h;cases h
   ·rw[e,ht.1]at h;cases h
  ·exact Yd ok ht l
theorem YA {d:Nat} {m:List (Tok×Tok)}(ok:okM d m=true) {rest:List (Tok×List AV)} {u:Tok} {cs:List AV}:∀{l:List (Tok×List AV)},zn l u=some cs→zn (vj d m rest l) (Q8 d m u)=some (cs.map (AV.ren fun u=>some (Q8 d m u)))
 | [],h=>by simp[zn]at h
 |(u0,cs0)::l,h=>by
  simp only[zn]at h
  simp only[vj,zn]
  split at h
  ·rename_i e;injection h with h;subst e;subst h;simp
  ·rename_i e
   rw[if_neg (fun h'=>e (JQ ok h'))]
   exact YA ok h
def v7(S:St)(d:Nat)(m:List (Tok×Tok))(pin:List Tok)(rs':List (Tok×List AV)):St:=
 let S1:=S.fil (Zq d m pin) (Zw d m)
 {S1 with rs:=vj d m (ja d m S1.rs) rs'}
def Kd.ren(f:Tok→Option Tok):Kd→Kd
 |.prot=>.prot
 |.root t=>match f t with
  |some u=>.root u
  |none=>.prot
 |.tail t=>match f t with
  |some u=>.tail u
  |none=>.prot
theorem Kd.Z1 {f:Tok→Option Tok} {u:Tok}:∀{k:Kd},k.ren f=.root u↔∃t,k=.root t∧f t=some u
 |.prot=>by simp[Kd.ren]
 |.root t=>by
  simp only[Kd.ren]
  cases h:f t<;>simp[h]
 |.tail t=>by
  simp only[Kd.ren]
  cases h:f t<;>simp
theorem Kd.wj {f:Tok→Option Tok} {u:Tok}:∀{k:Kd},k.ren f=.tail u↔∃t,k=.tail t∧f t=some u
 |.prot=>by simp[Kd.ren]
 |.root t=>by
  simp only[Kd.ren]
  cases h:f t<;>simp
 |.tail t=>by
  simp only[Kd.ren]
  cases h:f t<;>simp[h]
def Gh.ZQ(g:Gh)(m:List (Tok×Tok)):Gh:=⟨g.fr,fun b=>(g.K b).ren (inM m)⟩
theorem Ren.ZQ(g:Gh)(m:List (Tok×Tok)):Ren g (g.ZQ m) (inM m):=
 ⟨rfl,fun _ t _ hu hk=>Kd.Z1.2 ⟨t,hk,hu⟩,fun _ t _ hu hk=>Kd.wj.2 ⟨t,hk,hu⟩⟩
theorem SR.ZQ [Gi] {E:Ent} {S:St} {g:Gh} {a:Act} {w:World}(h:SR E S g a w) {d:Nat} {m:List (Tok×Tok)}(ok:okM d m=true):GS (g.ZQ m) w (qW S m m):=by
 refine⟨fun b u hk=>?_,fun b b' u hk hk'=>?_,fun b b' u hk hk'=>?_,fun b hb=>(h.own b (fun e=>hb ?_)).1,h.frb,fun b arr e=>⟨by show(g.K b).ren _=.prot;rw[(h.gl b arr e).1];rfl,(h.gl b arr e).2⟩⟩
 ·obtain⟨t,hk,hu⟩:=Kd.Z1.1 hk
  obtain⟨cs,hl,h0,arr,T,hb,hle,hc⟩:=h.roots b t hk
  refine⟨_,vP (Qg ok hu) hl,h0,arr,T,hb,by simpa using hle,fun j x hj=>?_⟩
  simp only[List.getElem?_map,Option.map_eq_some_iff]at hj
  obtain⟨y,hy,rfl⟩:=hj
  obtain⟨v,hv,h1,r⟩:=hc j y hy
  exact⟨v,hv,h1,zb.ren (Ren.ZQ g m) _ _ r⟩
 ·obtain⟨t,hk,hu⟩:=Kd.Z1.1 hk
  obtain⟨t',hk',hu'⟩:=Kd.Z1.1 hk'
  have e:=Qg ok hu
  rw[Qg ok hu']at e;injection e with e;subst e
  exact h.ur b b' _ hk hk'
 ·obtain⟨t,hk,hu⟩:=Kd.wj.1 hk
  obtain⟨t',hk',hu'⟩:=Kd.wj.1 hk'
  have e:=Qg ok hu
  rw[Qg ok hu']at e;injection e with e;subst e
  exact h.ut b b' _ hk hk'
 ·show(g.K b).ren _=.prot
  rw[e];rfl
open Classical in
theorem SR.XR [Gi] {E:Ent} {S:St} {g:Gh} {a:Act} {w:World}(h:SR E S g a w) {d:Nat} {m:List (Tok×Tok)} {pin:List Tok}(ok:okM d m=true)(hpin:S.pin.all (Zq d m pin)=true) {rs':List (Tok×List AV)} {g':Gh} {w':World}
  (hG:GS g' w' rs') (hA:Aft (g.ZQ m) w g' w' pin):
  ∃g'',SR E (v7 S d m pin rs') g'' a w'∧∀x v,zb g' w' x v→zb g'' w' (x.ren fun u=>some (Q8 d m u)) v:=by
 have h1:=h.filter (Zq d m pin) (Zw d m) (fun t ht=>List.all_eq_true.1 hpin t ht)
 let K'':Nat→Kd:=fun b=>if b<w.heap.size∧(g.ZQ m).K b=.prot then(g.fil (Zq d m pin) (Zw d m)).K b else(g'.K b).ren fun u=>some (Q8 d m u)
 have old:∀b,b<w.heap.size∧(g.ZQ m).K b=.prot→K'' b=(g.fil (Zq d m pin) (Zw d m)).K b:=fun b hb=>if_pos hb
 have nw:∀b,¬(b<w.heap.size∧(g.ZQ m).K b=.prot)→K'' b=(g'.K b).ren fun u=>some (Q8 d m u):=fun b hb=>if_neg hb
 have hne:∀b,g'.K b≠ .prot→¬(b<w.heap.size∧(g.ZQ m).K b=.prot):=fun b hb hc=>hb (hA.frame b hc.1 hc.2).2.2
 have rr:Ren g' ⟨g'.fr,K''⟩ (fun u=>some (Q8 d m u)):=⟨rfl,fun b t u hu hk=>by
   show K'' b=_
   rw[nw b (hne b (by rw[hk];simp)),hk]
   injection hu with hu;subst hu;rfl,fun b t u hu hk=>by
   show K'' b=_
   rw[nw b (hne b (by rw[hk];simp)),hk]
   injection hu with hu;subst hu;rfl⟩
 have hlt:∀b,(g.fil (Zq d m pin) (Zw d m)).K b≠ .prot→b<w.heap.size:=fun b hb=>(h1.own b hb).1
 have keepRoot:∀b t,g.K b=.root t→Zq d m pin t=true→K'' b=.root t:=fun b t hk ht=>by
  have hb:b<w.heap.size:=(h.own b (by rw[hk];simp)).1
  cases hi:inM m t with
  |none=>
   rw[old b ⟨hb,by show(g.K b).ren _=.prot;rw[hk];simp[Kd.ren,hi]⟩]
   exact Gh.qc.2 ⟨hk,ht⟩
  |some u=>
   have hc:(g.ZQ m).K b=.root u:=Kd.Z1.2 ⟨t,hk,hi⟩
   have hp:u∈pin:=by
    unfold Zq at ht
    rw[hi]at ht
    simp at ht
    exact ht.2
   rw[nw b (fun hx=>by rw[hc]at hx;cases hx.2),(hA.pins b u hc hp).1]
   simp only[Kd.ren,Q8,Qg ok hi]
 have keepBlk:∀b t,g.K b=.root t→Zq d m pin t=true→∀n,Blk w b n→Blk w' b n:=fun b t hk ht n hn=>by
  have hb:b<w.heap.size:=(h.own b (by rw[hk];simp)).1
  cases hi:inM m t with
  |none=>exact Blk.of_heap (hA.frame b hb (by show(g.K b).ren _=.prot;rw[hk];simp[Kd.ren,hi])).1 hn
  |some u=>
   have hc:(g.ZQ m).K b=.root u:=Kd.Z1.2 ⟨t,hk,hi⟩
   have hp:u∈pin:=by
    unfold Zq at ht
    rw[hi]at ht
    simp at ht
    exact ht.2
   exact(hA.pins b u hc hp).2 n hn
 have keepTail:∀b t,g.K b=.tail t→Zw d m t=true→b<w.heap.size∧(g.ZQ m).K b=.prot∧K'' b=.tail t:=fun b t hk ht=>by
  have hb:b<w.heap.size:=(h.own b (by rw[hk];simp)).1
  have hi:inM m t=none:=by
   simp only[Zw,Bool.and_eq_true,Option.isNone_iff_eq_none]at ht;exact ht.2
  have hp:(g.ZQ m).K b=.prot:=by show(g.K b).ren _=.prot;rw[hk];simp[Kd.ren,hi]
  exact⟨hb,hp,by rw[old b ⟨hb,hp⟩];exact Gh.qT.2 ⟨hk,ht⟩⟩
 have k:vu (g.fil (Zq d m pin) (Zw d m)) w ⟨g'.fr,K''⟩ w' ftt ftt:=⟨hA.ext,fun b t _ hk=>⟨keepRoot b t (Gh.qc.1 hk).1 (Gh.qc.1 hk).2,keepBlk b t (Gh.qc.1 hk).1 (Gh.qc.1 hk).2⟩,fun b t _ hk=>by
   obtain⟨hb,hp,e⟩:=keepTail b t (Gh.qT.1 hk).1 (Gh.qT.1 hk).2
   exact⟨e,(hA.frame b hb hp).2.1,ZP (hA.frame b hb hp).1⟩⟩
 -- where a block's name comes from
 have from_r:∀b t,K'' b=.root t→(Zw d m t=true∧b<w.heap.size∧(g.ZQ m).K b=.prot∧(g.fil (Zq d m pin) (Zw d m)).K b=.root t)∨(∃u,t=Q8 d m u∧g'.K b=.root u):=fun b t hk=>by
  by_cases hb:b<w.heap.size∧(g.ZQ m).K b=.prot
  ·rw[old b hb]at hk
   have h2:=Gh.qc.1 hk
   have hi:inM m t=none:=by
    cases hi:inM m t with
    |none=>rfl
    |some u=>have:(g.ZQ m).K b=.root u:=Kd.Z1.2 ⟨t,h2.1,hi⟩;rw[hb.2]at this;cases this
   have:Zw d m t=true:=by
    have h3:=h2.2
    unfold Zq at h3
    simp only[Zw,hi,Bool.and_eq_true]at h3⊢
    exact⟨h3.1,rfl⟩
   exact .inl ⟨this,hb.1,hb.2,hk⟩
  ·rw[nw b hb]at hk
   obtain⟨u,hu,e⟩:=Kd.Z1.1 hk
   injection e with e
   exact .inr ⟨u,e.symm,hu⟩
 have from_t:∀b t,K'' b=.tail t→(Zw d m t=true∧(g.fil (Zq d m pin) (Zw d m)).K b=.tail t)∨(∃u,t=Q8 d m u∧g'.K b=.tail u):=fun b t hk=>by
  by_cases hb:b<w.heap.size∧(g.ZQ m).K b=.prot
  ·rw[old b hb]at hk
   exact .inl ⟨(Gh.qT.1 hk).2,hk⟩
  ·rw[nw b hb]at hk
   obtain⟨u,hu,e⟩:=Kd.wj.1 hk
   injection e with e
   exact .inr ⟨u,e.symm,hu⟩
 have clash:∀u,Zw d m (Q8 d m u)=true→False:=fun u hu=>by
  simp only[Zw,Bool.and_eq_true,Option.isNone_iff_eq_none]at hu
  rcases zaa ok u with h|h
  ·rw[hu.2]at h;cases h
  ·rw[hu.1]at h;cases h
 refine⟨⟨g'.fr,K''⟩,?_,fun x v r=>zb.ren rr x v r⟩
 refine⟨h1.size,h1.defers,fun t=>zb.all k _ _ (h1.slots t),fun b t hk=>?_,fun b b' t hk hk'=>?_,fun b b' t hk hk'=>?_,fun b hb=>?_,fun b hb=>?_,h1.ext.trans hA.ext,
   ⟨hA.out.1.trans h1.out.1,hA.out.2.1.trans h1.out.2.1,hA.out.2.2.trans h1.out.2.2⟩,Nat.le_trans h1.mono hA.mono,hG.frb,fun b t hk ht=>?_⟩
 ·rcases from_r b t hk with ⟨ht,hb,hp,hk⟩|⟨u,rfl,hk2⟩
  ·obtain⟨cs,hl,h0,arr,T,hbh,hle,hc⟩:=h1.roots b t hk
   refine⟨cs,?_,(hA.frame b hb hp).2.1.trans h0,arr,T,(hA.frame b hb hp).1.trans hbh,hle,fun j x hj=>let⟨v,hv,e,r⟩:=hc j x hj;⟨v,hv,e,zb.all k _ _ r⟩⟩
   show zn (vj d m (ja d m _) rs') t=_
   rw[Yd ok ht,Wq ht];exact hl
  ·obtain⟨cs,hl,h0,arr,T,hbh,hle,hc⟩:=hG.roots b u hk2
   refine⟨_,YA ok hl,h0,arr,T,hbh,by simpa using hle,fun j x hj=>?_⟩
   simp only[List.getElem?_map,Option.map_eq_some_iff]at hj
   obtain⟨y,hy,rfl⟩:=hj
   obtain⟨v,hv,e,r⟩:=hc j y hy
   exact⟨v,hv,e,zb.ren rr y v r⟩
 ·rcases from_r b t hk with ⟨ht,_,_,hk⟩|⟨u,rfl,hk2⟩
  ·rcases from_r b' t hk' with ⟨_,_,_,hk'⟩|⟨u',rfl,hk'⟩
   ·exact h1.ur b b' t hk hk'
   ·exact(clash _ ht).elim
  ·rcases from_r b' _ hk' with ⟨ht,_,_,hk'⟩|⟨u',e,hk'⟩
   ·exact(clash _ ht).elim
   ·have:=JQ ok e;subst this;exact hG.ur b b' _ hk2 hk'
 ·rcases from_t b t hk with ⟨ht,hk⟩|⟨u,rfl,hk2⟩
  ·rcases from_t b' t hk' with ⟨_,hk'⟩|⟨u',rfl,hk'⟩
   ·exact h1.ut b b' t hk hk'
   ·exact(clash _ ht).elim
  ·rcases from_t b' _ hk' with ⟨ht,hk'⟩|⟨u',e,hk'⟩
   ·exact(clash _ ht).elim
   ·have:=JQ ok e;subst this;exact hG.ut b b' _ hk2 hk'
 ·have hb':K'' b≠ .prot:=hb
  by_cases hc:b<w.heap.size∧(g.ZQ m).K b=.prot
  ·rw[old b hc]at hb'
   exact⟨Nat.lt_of_lt_of_le hc.1 hA.mono,(h1.own b hb').2⟩
  ·rw[nw b hc]at hb'
   have hg':g'.K b≠ .prot:=fun e=>hb' (by rw[e];rfl)
   refine⟨hG.own b hg',?_⟩
   by_cases hlt:b<w.heap.size
   ·have:g.K b≠ .prot:=fun e=>hc ⟨hlt,by show(g.K b).ren _=.prot;rw[e];rfl⟩
    exact(h.own b this).2
   ·exact .inl (by have:=h.mono;omega)
 ·have hlt:=h.yG hb
  have hg:g.K b=.prot:=by
   rcases em (g.K b=.prot)with e|e
   ·exact e
   ·exact absurd (h.own b e).2 hb
  have hp:(g.ZQ m).K b=.prot:=by show(g.K b).ren _=.prot;rw[hg];rfl
  exact⟨(hA.frame b hlt hp).1.trans (h.frame b hb).1,(hA.frame b hlt hp).2.1.trans (h.frame b hb).2⟩
 ·have hp:t∈S.pin:=ht
  exact⟨keepRoot b t (h.pins b t hk hp).1 (List.all_eq_true.1 hpin t hp),fun n hn=>keepBlk b t (h.pins b t hk hp).1 (List.all_eq_true.1 hpin t hp) n ((h.pins b t hk hp).2 n hn)⟩
def zfK(m:List (Tok×Tok))(x:AV):AV:=match x with
 |.ag _=>match toP x with
  |some y=>.p y
  |none=>x.ren (inM m)
 |x=>x.ren (inM m)
def ZM(S:St)(m:List (Tok×Tok)):List Operand→Prop×List AV
 | []=>(True,[])
 |x::rest=>((unG (S.ev x)).1∧(ZM S m rest).1,zfK m (unG (S.ev x)).2::(ZM S m rest).2)
theorem Xv {g:Gh} {w:World} {m:List (Tok×Tok)} {x:AV} {v:Value}(r:zb g w x v):zb (g.ZQ m) w (zfK m x) v:=by
 cases x with
 |ag xs=>
  simp only[zfK]
  split
  ·rename_i y hy
   have:=zdP hy r
   simpa only[zb,Gh.ZQ]using this
  ·exact zb.ren (Ren.ZQ g m) _ _ r
 |_=>exact zb.ren (Ren.ZQ g m) _ _ r
theorem xe [Gi] {E:Ent} {S:St} {g:Gh} {a:Act} {w:World}(hS:SR E S g a w) {m:List (Tok×Tok)}:∀{ps:List Operand},(ZM S m ps).1→zo (g.ZQ m) w (ZM S m ps).2 (ps.map a.eval)
 | [],h=>by simp[ZM,zo]
 |x::rest,h=>by
  simp only[ZM,List.map_cons,zo]at h⊢
  exact⟨_,_,rfl,Xv (zu h.1 (hS.ev x)),xe hS h.2⟩
def Yj [Gi](P:Program)(S:St)(f:FuncId)(args:List Operand)(dst:Option Nat)(K:St→Prop):Prop:=
 ∃(m:List (Tok×Tok)) (pin:List Tok) (R:AV→List (Tok×List AV)→Prop),(okM (dst.getD S.n) m=true∧S.pin.all (Zq (dst.getD S.n) m pin)=true∧dOK S dst)∧(ZM S m args).1∧CR P f pin (ZM S m args).2 (qW S m m) R∧
  ∀x rs',R x rs'→K ((v7 S (dst.getD S.n) m pin rs').qE dst (x.ren fun u=>some (Q8 (dst.getD S.n) m u)))
def ze7:AV→Option FuncId
 |.p (.opq (.func (.func f) a b))=>if a.size=0∧b.size=0 then some f else none
 |.gd true (.p (.opq (.func (.func f) a b)))=>if a.size=0∧b.size=0 then some f else none
 |_=>none
theorem zag {g:Gh} {w:World} {x:AV} {v:Value} {f:FuncId}(hf:ze7 x=some f)(hr:zb g w x v):v=.func (.func f) #[] #[]:=by
 unfold ze7 at hf
 split at hf
 ·rename_i f' p q
  split at hf
  ·rename_i hs
   injection hf with hf;subst hf
   have hp:p= #[]:=Array.eq_empty_of_size_eq_zero hs.1
   have hq:q= #[]:=Array.eq_empty_of_size_eq_zero hs.2
   subst hp;subst hq
   simpa only[zb,zl]using hr
  ·cases hf
 ·rename_i f' p q
  split at hf
  ·rename_i hs
   injection hf with hf;subst hf
   have hp:p= #[]:=Array.eq_empty_of_size_eq_zero hs.1
   have hq:q= #[]:=Array.eq_empty_of_size_eq_zero hs.2
   subst hp;subst hq
   simp only[zb,zl]at hr
   exact hr.1 trivial
  ·cases hf
 ·cases hf
def zc0 [Gi](P:Program)(S:St)(f:FuncId)(cs:List AV)(args:List Operand)(dst:Option Nat)(K:St→Prop):Prop:=
 ∃(m:List (Tok×Tok)) (pin:List Tok) (R:AV→List (Tok×List AV)→Prop),(okM (dst.getD S.n) m=true∧S.pin.all (Zq (dst.getD S.n) m pin)=true∧dOK S dst)∧(ZM S m args).1∧CR P f pin ((ZM S m args).2++cs.map (zfK m)) (qW S m m) R∧
  ∀x rs',R x rs'→K ((v7 S (dst.getD S.n) m pin rs').qE dst (x.ren fun u=>some (Q8 (dst.getD S.n) m u)))
def Kw [Gi](P:Program)(S:St)(o:Oper)(K:St→Prop):Prop:=
 match o.op with
 |.call c=>
  match c.callee with
  |.value x=>
   match ze7 (S.ev x)with
   |some f=>(((P.funcs[f]?).map (·.body.isSome))=some true∧((P.funcs[f]?).map (·.name))≠some "runtime.NumGoroutine")∧Yj P S f c.args.toList o.dst K
   |none=>match(unG (S.ev x)).2 with
    |.fn f cs=>((((P.funcs[f]?).map (·.body.isSome))=some true∧((P.funcs[f]?).map (·.name))≠some "runtime.NumGoroutine")∧(unG (S.ev x)).1)∧zc0 P S f cs c.args.toList o.dst K
    |_=>False
  |_=>False
 |.next x isS=>match isS,(unG (S.ev x)).2 with
  |false,.it t ks xs left _=>((unG (S.ev x)).1∧dOK S o.dst)∧(left=[]→K (S.qE o.dst (.tup [.p (.bool false)])))∧∀i∈left,K ((S.itz t (left.filter (· !=i)) (some i)).qE o.dst (.tup [.p (.bool true),.p (elemAt ks i),.p (elemAt xs i)]))
  |_,_=>False
 |_=>False
def zki(S:St)(d:Nat)(x:AV):Bool:=
 match x with
 |.la _ _ _ _=>true
 |.ow _ _ _=>true
 |x=>ZW x&&S.rm.contains d
def uP(P:Program)(S:St)(d:Nat)(sT xT:TypeId)(x y:AV):Prop×St:=if zki S d x then Vk P S d sT xT x y else VV P S d sT xT x y
theorem Xj [Gi] {P:Program} {E:Ent} {S:St} {g:Gh} {a:Act} {w:World}(hS:SR E S g a w) {d:Nat} {sT xT tt:TypeId} {x y:AV} {u v:Value}(h:(uP P S d sT xT x y).1)
  (rx:zb g w x u) (ry:zb g w y v):
  ∃r w' g',(Builtin.append_ #[sT,xT] tt #[u,v]).run P w=.ok r w'∧SR E (uP P S d sT xT x y).2 g' (a.put (some d) r) w':=by
 unfold uP at h⊢
 split at h
 ·rename_i hc;rw[if_pos hc];exact Xo hS h rx ry
 ·rename_i hc;rw[if_neg hc];exact zaX hS h rx ry
def zdR(P:Program)(S:St)(o:Oper):Option (Prop×St):=
 match o.op with
 |.assign x=>some (uB P S o.dst o.type (S.ev x))
 |.alloc T=>some (UK P S o.dst T)
 |.box _ x=>some (zjW S o.dst x)
 |.store T x y=>some ((((unG (S.ev x)).1∧(unG (S.ev y)).1)∧o.dst=none)∧(UE P S T (unG (S.ev x)).2 (unG (S.ev y)).2).1,(UE P S T (unG (S.ev x)).2 (unG (S.ev y)).2).2)
 |.buildSlice T n parts=>match o.dst with
  |some d=>some (if(Zz S parts.toList).2.isNone then yR P S d T n parts.toList else kS P S d T n parts.toList)
  |none=>none
 |.call c=>match c.callee,c.args.toList,c.argTypes.toList,o.dst with
  |.builtin .append,[x,y],[sT,xT],some d=>some (((unG (S.ev x)).1∧(unG (S.ev y)).1)∧(uP P S d sT xT (unG (S.ev x)).2 (unG (S.ev y)).2).1,(uP P S d sT xT (unG (S.ev x)).2 (unG (S.ev y)).2).2)
  |.builtin .copy,[x,y],[sT,_],dst=>some ((((unG (S.ev x)).1∧(unG (S.ev y)).1)∧dOK S dst)∧(uj P S sT (unG (S.ev x)).2 (unG (S.ev y)).2).1,(uj P S sT (unG (S.ev x)).2 (unG (S.ev y)).2).2.2.qE dst (.p (.int .i64 (uj P S sT (unG (S.ev x)).2 (unG (S.ev y)).2).2.1)))
  |.builtin .clear,[x],[sT],none=>some ((unG (S.ev x)).1∧(UJ P S sT (unG (S.ev x)).2).1,(UJ P S sT (unG (S.ev x)).2).2)
  |_,_,_,_=>none
 |.makeSlice T l c=>match o.dst with
  |some d=>some (((unG (S.ev l)).1∧(unG (S.ev c)).1)∧(kn P S d T (unG (S.ev l)).2 (unG (S.ev c)).2).1,(kn P S d T (unG (S.ev l)).2 (unG (S.ev c)).2).2)
  |none=>none
 |.convert s t x=>match o.dst with
  |some d=>some ((unG (S.ev x)).1∧(sbD P S d s t (unG (S.ev x)).2).1,(sbD P S d s t (unG (S.ev x)).2).2)
  |none=>none
 |.mapEntry T m k=>match o.dst with
  |some d=>some (((unG (S.ev m)).1∧(unG (S.ev k)).1)∧(uK P S d T (unG (S.ev m)).2 (unG (S.ev k)).2).1,(uK P S d T (unG (S.ev m)).2 (unG (S.ev k)).2).2)
  |none=>none
 |.entryStore _ m s x=>some ((((unG (S.ev m)).1∧(unG (S.ev s)).1∧(unG (S.ev x)).1)∧o.dst=none)∧(UC S (unG (S.ev m)).2 (unG (S.ev s)).2 (unG (S.ev x)).2).1,(UC S (unG (S.ev m)).2 (unG (S.ev s)).2 (unG (S.ev x)).2).2)
 |.range T x=>match o.dst with
  |some d=>some ((unG (S.ev x)).1∧(UO P S d T (unG (S.ev x)).2).1,(UO P S d T (unG (S.ev x)).2).2)
  |none=>none
 |.entry x=>some (((unG (S.ev x)).1∧dOK S o.dst)∧(Us (unG (S.ev x)).2).1,S.qE o.dst (Us (unG (S.ev x)).2).2)
 |.makeMap _ none=>match o.dst with
  |some d=>some (VC S d)
  |none=>none
 |.insert T m k x=>some ((((unG (S.ev m)).1∧(unG (S.ev k)).1∧(unG (S.ev x)).1)∧o.dst=none)∧(xr P S T (unG (S.ev m)).2 (unG (S.ev k)).2 (unG (S.ev x)).2).1,(xr P S T (unG (S.ev m)).2 (unG (S.ev k)).2 (unG (S.ev x)).2).2)
 |.mapUpdate T m k x=>some ((((unG (S.ev m)).1∧(unG (S.ev k)).1∧(unG (S.ev x)).1)∧o.dst=none)∧(xr P S T (unG (S.ev m)).2 (unG (S.ev k)).2 (unG (S.ev x)).2).1,(xr P S T (unG (S.ev m)).2 (unG (S.ev k)).2 (unG (S.ev x)).2).2)
 |_=>none
theorem zl8(P:Program)(S:St)(T:TypeId)(x y:AV):(uj P S T x y).2.2.n=S.n:=by
 unfold uj
 split
 ·split<;>rfl
 ·rfl
theorem zg3 [Gi] {P:Program} {E:Ent} {S:St} {g:Gh} {a:Act} {w:World}(hS:SR E S g a w) {o:Oper} {r:Prop×St}(e:zdR P S o=some r)(h:r.1):
  ∃v w' g',Ran P o a w v w'∧SR E r.2 g' (a.put o.dst v) w':=by
 obtain⟨dst,op,tt,pos,after,guard⟩:=o
 unfold zdR at e
 cases op with
 |assign x=>
  simp only[Option.some.injEq]at e;subst e
  exact uZ (o:=⟨dst,.assign x,tt,pos,after,guard⟩) hS rfl h
 |alloc T=>
  simp only[Option.some.injEq]at e;subst e
  exact zbJ (o:=⟨dst,.alloc T,tt,pos,after,guard⟩) hS rfl h
 |box T x=>
  simp only[Option.some.injEq]at e;subst e
  exact zfL (o:=⟨dst,.box T x,tt,pos,after,guard⟩) hS rfl h
 |store T x y=>
  simp only[Option.some.injEq]at e;subst e
  obtain⟨⟨⟨h1,h2⟩,h3⟩,h4⟩:=h
  have h3:dst=none:=h3
  subst h3
  obtain⟨w',g',k1,k2⟩:=zaU (P:=P) hS h4 (zu h1 (hS.ev x)) (zu h2 (hS.ev y))
  refine⟨undef,w',g',.inr ⟨?_,rfl⟩,k2⟩
  simp only[execOp,Sem.run_bind,k1,Result.andThen_ok,Sem.run_pure]
 |buildSlice T n parts=>
  cases dst with
  |none=>simp at e
  |some d=>
   simp only[Option.some.injEq]at e;subst e
   split at h
   ·rename_i hc
    rw[if_pos hc]
    obtain⟨r,w',g',k1,k2⟩:=KO (P:=P) hS h
    exact⟨r,w',g',.inl (zX k1),k2⟩
   ·rename_i hc
    rw[if_neg hc]
    obtain⟨r,w',g',k1,k2⟩:=UH (P:=P) hS h
    exact⟨r,w',g',.inl (zX k1),k2⟩
 |call c=>
  obtain⟨callee,args,argTypes⟩:=c
  simp only[]at e
  split at e
  ·rename_i x y sT xT d h1 h2
   simp only[Option.some.injEq]at e;subst e
   have ha:args= #[x,y]:=by rw[←Array.toArray_toList (xs:=args),h1]
   have ht:argTypes= #[sT,xT]:=by rw[←Array.toArray_toList (xs:=argTypes),h2]
   subst ha;subst ht
   obtain⟨r,w',g',k1,k2⟩:=Xj (P:=P) (tt:=tt) hS h.2 (zu h.1.1 (hS.ev x)) (zu h.1.2 (hS.ev y))
   refine⟨r,w',g',.inl (zX ?_),k2⟩
   have hm:Array.map a.eval #[x,y]= #[a.eval x,a.eval y]:=by simp
   simp only[hm]
   exact k1
  ·rename_i d x y sT xT h1 h2
   simp only[Option.some.injEq]at e;subst e
   have ha:args= #[x,y]:=by rw[←Array.toArray_toList (xs:=args),h1]
   have ht:argTypes= #[sT,xT]:=by rw[←Array.toArray_toList (xs:=argTypes),h2]
   subst ha;subst ht
   obtain⟨w',g',k1,k2⟩:=zeR (P:=P) (T':=xT) (tt:=tt) hS h.2 (zu h.1.1.1 (hS.ev x)) (zu h.1.1.2 (hS.ev y))
   refine⟨.int .i64 (uj P S sT (unG (S.ev x)).2 (unG (S.ev y)).2).2.1,w',g',.inl (zX ?_),k2.qE (by simp only[zb,zl]) ?_⟩
   ·have hm:Array.map a.eval #[x,y]= #[a.eval x,a.eval y]:=by simp
    simp only[hm]
    exact k1
   ·have:=h.1.2
    unfold dOK at this⊢
    rw[zl8];exact this
  ·rename_i x sT h1 h2
   simp only[Option.some.injEq]at e;subst e
   have ha:args= #[x]:=by rw[←Array.toArray_toList (xs:=args),h1]
   have ht:argTypes= #[sT]:=by rw[←Array.toArray_toList (xs:=argTypes),h2]
   subst ha;subst ht
   obtain⟨w',g',k1,k2⟩:=zep (P:=P) (tt:=tt) hS h.2 (zu h.1 (hS.ev x))
   refine⟨.tuple #[],w',g',.inl (zX ?_),k2⟩
   have hm:Array.map a.eval #[x]= #[a.eval x]:=by simp
   simp only[hm]
   exact k1
  ·cases e
 |convert s t x=>
  cases dst with
  |none=>simp at e
  |some d=>
   simp only[Option.some.injEq]at e;subst e
   obtain⟨r,w',g',k1,k2⟩:=zjO (P:=P) hS h.2 (zu h.1 (hS.ev x))
   exact⟨r,w',g',.inl (zX k1),k2⟩
 |mapEntry T m k=>
  cases dst with
  |none=>simp at e
  |some d=>
   simp only[Option.some.injEq]at e;subst e
   obtain⟨r,w',g',k1,k2⟩:=Y8 (P:=P) hS h.2 (zu h.1.1 (hS.ev m)) (zu h.1.2 (hS.ev k))
   exact⟨r,w',g',.inl (zX k1),k2⟩
 |entryStore T m s x=>
  simp only[Option.some.injEq]at e;subst e
  obtain⟨⟨⟨h1,h2,h3⟩,h4⟩,h5⟩:=h
  have h4:dst=none:=h4
  subst h4
  obtain⟨w',g',k1,k2⟩:=zaM (P:=P) (T:=T) hS h5 (zu h1 (hS.ev m)) (zu h2 (hS.ev s)) (zu h3 (hS.ev x))
  refine⟨undef,w',g',.inr ⟨?_,rfl⟩,k2⟩
  simp only[execOp,Sem.run_bind,k1,Result.andThen_ok,Sem.run_pure]
 |range T x=>
  cases dst with
  |none=>simp at e
  |some d=>
   simp only[Option.some.injEq]at e;subst e
   obtain⟨r,w',g',k1,k2⟩:=zbk (P:=P) hS h.2 (zu h.1 (hS.ev x))
   exact⟨r,w',g',.inl (zX k1),k2⟩
 |entry x=>
  simp only[Option.some.injEq]at e;subst e
  obtain⟨v,k1,k2⟩:=zaJ (P:=P) h.2 (zu h.1.1 (hS.ev x))
  exact⟨v,w,g,.inl (zX k1),hS.qE k2 h.1.2⟩
 |makeMap T r=>
  cases r with
  |some r=>cases e
  |none=>
   cases dst with
   |none=>simp at e
   |some d=>
    simp only[Option.some.injEq]at e;subst e
    obtain⟨r,w',g',k1,k2⟩:=Yy (P:=P) (T:=T) hS h
    exact⟨r,w',g',.inl (zX k1),k2⟩
 |insert T m k x=>
  simp only[Option.some.injEq]at e;subst e
  obtain⟨⟨⟨h1,h2,h3⟩,h4⟩,h5⟩:=h
  have h4:dst=none:=h4
  subst h4
  obtain⟨w',g',k1,k2⟩:=u6 (P:=P) hS h5 (zu h1 (hS.ev m)) (zu h2 (hS.ev k)) (zu h3 (hS.ev x))
  refine⟨undef,w',g',.inr ⟨?_,rfl⟩,k2⟩
  simp only[execOp,Sem.run_bind,k1,Result.andThen_ok,Sem.run_pure]
 |mapUpdate T m k x=>
  simp only[Option.some.injEq]at e;subst e
  obtain⟨⟨⟨h1,h2,h3⟩,h4⟩,h5⟩:=h
  have h4:dst=none:=h4
  subst h4
  obtain⟨w',g',k1,k2⟩:=u6 (P:=P) hS h5 (zu h1 (hS.ev m)) (zu h2 (hS.ev k)) (zu h3 (hS.ev x))
  refine⟨undef,w',g',.inr ⟨?_,rfl⟩,k2⟩
  simp only[execOp,Sem.run_bind,k1,Result.andThen_ok,Sem.run_pure]
 |makeSlice T l c=>
  cases dst with
  |none=>simp at e
  |some d=>
   simp only[Option.some.injEq]at e;subst e
   obtain⟨r,w',g',k1,k2⟩:=KL (P:=P) hS h.2 (zu h.1.1 (hS.ev l)) (zu h.1.2 (hS.ev c))
   exact⟨r,w',g',.inl (zX k1),k2⟩
 |_=>cases e
def KC [Gi](P:Program)(S:St)(o:Oper)(K:St→Prop):Prop:=
 match zdR P S o with
 |some r=>r.1∧K r.2
 |none=>Kw P S o K
def jP [Gi](P:Program)(S:St)(o:Oper)(c:Option Bool)(K:St→Prop):Prop:=
 match Zb P S o with
 |some r=>
  match c with
  |none=>(r.1∧dOK S o.dst)∧K (S.qE o.dst r.2)
  |some c=>((c=true→r.1)∧dOK S o.dst)∧K (S.qE o.dst (.gd c r.2))
 |none=>
  match c with
  |none=>KC P S o K
  |some c=>(c=true→KC P S o K)∧(c=false→dOK S o.dst∧K (S.qE o.dst (.gd false .zY)))
def zbE(x:AV)(want:Bool):Option Bool:=
 match x with
 |.p (.bool b)=>some (b==want)
 |.gd c (.p (.bool b))=>some (c&&(b==want))
 |.gd false _=>some false
 |_=>none
def qj(ops:Array Oper)(S:St)(o:Oper):Option (Option Bool):=
 match o.guard with
 |none=>some none
 |some (j,want)=>
  match(ops[j]?).bind (·.dst)with
  |some t=>(zbE (S.get t) want).map some
  |none=>none
def Zu [Gi](P:Program)(ops:Array Oper):List Oper→St→(St→Prop)→Prop
 | [],S,K=>K S
 |o::rest,S,K=>
  match qj ops S o with
  |some c=>jP P S o c fun S'=>Zu P ops rest S' K
  |none=>False
theorem jW {P:Program} {w:World} {f:FuncId} {args:Array Value}(h:((P.funcs[f]?).map (·.body.isSome))=some true)(hn:((P.funcs[f]?).map (·.name))≠some "runtime.NumGoroutine"):
  (callFunc f args).run P w=.ok (.enter f args) w:=by
 cases hf:P.funcs[f]? with
 |none=>rw[hf]at h;cases h
 |some fn=>
  rw[hf]at h hn
  simp at h hn
  unfold callFunc
  simp only[Sem.run_bind,run_program,Result.andThen_ok,hf]
  rw[if_neg (by simpa using hn)]
  have h':fn.body.isNone=false:=by
   cases hb:fn.body with
   |none=>rw[hb]at h;simp at h
   |some c=>rfl
  rw[h']
  rfl
theorem Jd [Gi] {P:Program} {E:Ent} {S:St} {g:Gh} {a:Act} {w:World}(hS:SR E S g a w) {o:Oper} {K:St→Prop} {next:Act→World→Prop} {Q:Exit→Act→World→Prop}(h:KC P S o K)
  (hK:∀S' g' a' w',K S'→SR E S' g' a' w'→next a' w'):o.wp P a w next Q:=by
 unfold KC at h
 cases he:zdR P S o with
 |some r=>
  simp only[he]at h
  obtain⟨v,w',g',hr,hs⟩:=zg3 hS he h.1
  unfold Oper.wp
  rcases hr with hr|⟨hr,rfl⟩
  ·rw[hr];exact hK _ _ _ _ h.2 hs
  ·rw[hr];exact hK _ _ _ _ h.2 hs
 |none=>
  simp only[he]at h
  unfold Kw at h
  obtain⟨dst,op,tt,pos,after,guard⟩:=o
  split at h
  ·rename_i c e1
   simp only[]at e1
   subst e1
   obtain⟨callee,args,argTypes⟩:=c
   simp only[]at h
   split at h
   ·rename_i x
    split at h
    ·rename_i f hf
     obtain⟨⟨hb,hn⟩,m,pin,R,⟨hok,hpn,hd⟩,h1,hCR,hR⟩:=h
     have hfv:a.eval x=.func (.func f) #[] #[]:=zag hf (hS.ev x)
     have hargs:=xe hS h1
     have qI:=hCR w (g.ZQ m) (args.toList.map a.eval) hargs (hS.ZQ hok)
     have hrun:(execOp a.eval ⟨dst,.call ⟨.value x,args,argTypes⟩,tt,pos,after,guard⟩).run P w=.ok (.enter f (args.toList.map a.eval).toArray) w:=by
      simp only[execOp,resolve,hfv,Deferred.ofValue,Sem.run_bind,Sem.run_pure,Result.andThen_ok,invoke]
      rw[jW hb hn]
      congr 2
      apply Array.ext'
      simp
     unfold Oper.wp
     rw[hrun]
     refine qI.mono ?_
     rintro e w' ⟨v,x,rs',g',rfl,hRx,hrep,hG,hA⟩
     have hKx:=hR x rs' hRx
     obtain⟨g'',k1,k2⟩:=hS.XR hok hpn hG hA
     exact hK _ _ _ _ hKx (k1.qE (k2 _ _ hrep) hd)
    ·split at h
     ·rename_i f cs hf
      obtain⟨⟨⟨hb,hn⟩,hu⟩,m,pin,R,⟨hok,hpn,hd⟩,h1,hCR,hR⟩:=h
      have hr:=zu hu (hS.ev x)
      rw[hf]at hr
      simp only[zb]at hr
      obtain⟨us,hfv,hus⟩:=hr
      have hargs:zo (g.ZQ m) w ((ZM S m args.toList).2++cs.map (zfK m)) (args.toList.map a.eval++us.toList):=
       zo.append (xe hS h1) (zo.map _ (fun _ _=>Xv) cs _ hus)
      have qI:=hCR w (g.ZQ m) (args.toList.map a.eval++us.toList) hargs (hS.ZQ hok)
      have hrun:(execOp a.eval ⟨dst,.call ⟨.value x,args,argTypes⟩,tt,pos,after,guard⟩).run P w=.ok (.enter f (args.toList.map a.eval++us.toList).toArray) w:=by
       simp only[execOp,resolve,hfv,Deferred.ofValue,Sem.run_bind,Sem.run_pure,Result.andThen_ok,invoke]
       rw[jW hb hn]
       congr 2
       apply Array.ext'
       simp
      unfold Oper.wp
      rw[hrun]
      refine qI.mono ?_
      rintro e w' ⟨v,x,rs',g',rfl,hRx,hrep,hG,hA⟩
      have hKx:=hR x rs' hRx
      obtain⟨g'',k1,k2⟩:=hS.XR hok hpn hG hA
      exact hK _ _ _ _ hKx (k1.qE (k2 _ _ hrep) hd)
     ·exact h.elim
   ·exact h.elim
  ·rename_i x isS e1
   simp only[]at e1
   subst e1
   split at h
   ·rename_i t ks xs left cur hx
    obtain⟨⟨hu,hd⟩,h1,h2⟩:=h
    have hr:=zu hu (hS.ev x)
    rw[hx]at hr
    unfold Oper.wp
    rcases zfG (P:=P) (T:=tt) hS hr with ⟨hl,hrun⟩|⟨i,hi,w',k,v,hrun,hs,hk,hv⟩
    ·have hrun':(execOp a.eval ⟨dst,.next x false,tt,pos,after,guard⟩).run P w=.ok (.value (.tuple #[.bool false])) w:=zX hrun
     rw[hrun']
     exact hK _ _ _ _ (h1 hl) (hS.qE (by simp only[zb];exact⟨_,rfl,by simp[zo,zb,zl]⟩) hd)
    ·have hrun':(execOp a.eval ⟨dst,.next x false,tt,pos,after,guard⟩).run P w=.ok (.value (.tuple #[.bool true,k,v])) w':=zX hrun
     rw[hrun']
     exact hK _ _ _ _ (h2 i hi) (hs.qE (by
      simp only[zb]
      refine⟨_,rfl,?_⟩
      simp only[zo]
      exact⟨_,_,rfl,by simp only[zb,zl],_,_,rfl,by simp only[zb];exact hk,_,_,rfl,by simp only[zb];exact hv,rfl⟩) hd)
   ·exact h.elim
  ·exact h.elim
end
end Go.AM
