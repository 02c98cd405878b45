/- A part of this seat's proofs, by an abstract machine. Conditions: each law's. -/
import Derived.Test.YtfjdbbpimklecaaGreatDoorV08
import Derived.Test.YtfjdbbpimklecaaGreatDoorV09
namespace Go.AM
section
structure GS [Gi](g:Gh)(w:World)(rs:List (Tok×List AV)):Prop where
 roots:∀b t,g.K b=.root t→∃cs,zw rs t=some cs∧zd9 g w b cs
 ur:∀b b' t,g.K b=.root t→g.K b'=.root t→b=b'
 ut:∀b b' t,g.K b=.tail t→g.K b'=.tail t→b=b'
 own:∀b,g.K b≠ .prot→b<w.heap.size
 frb:∀b,w.heap.size≤b→g.fr b=0
 gl:ve g w
structure Aft(g:Gh)(w:World)(g':Gh)(w':World)(pin:List Tok):Prop where
 frame:∀b,b<w.heap.size→g.K b=.prot→w'.heap[b]?=w.heap[b]?∧g'.fr b=g.fr b∧g'.K b=.prot
 ext:Ext g.fr w g'.fr w'
 out:w'.os=w.os∧w'.tape=w.tape∧w'.output=w.output
 mono:w.heap.size≤w'.heap.size
 pins:∀b t,g.K b=.root t→t∈pin→g'.K b=.root t∧∀n,Blk w b n→Blk w' b n
theorem ve.aft [Gi] {g g':Gh} {w w':World} {pin:List Tok}(h:ve g w)(k:Aft g w g' w' pin):ve g' w':=fun b arr e=>by
 obtain⟨hk,T,f,hb⟩:=h b arr e
 obtain⟨h1,_,h3⟩:=k.frame b (Array.getElem?_eq_some_iff.1 hb).1 hk
 exact⟨h3,T,f,h1.trans hb⟩
def CR [Gi](P:Program)(f:FuncId)(pin:List Tok)(args:List AV)(rs:List (Tok×List AV))(R:AV→List (Tok×List AV)→Prop):Prop:=
 ∀(w:World) (g:Gh) (vs:List Value),zm g w args vs→GS g w rs→Calls P f vs.toArray w fun e w'=>
  ∃v x rs' g',e=.returned v∧R x rs'∧za g' w' x v∧GS g' w' rs'∧Aft g w g' w' pin
def jt(f:Tok→Option Tok):AV→AV
 |.lp t o=>match f t with
  |some u=>.lp u o
  |none=>.zK
 |.la t z o n=>match f t with
  |some u=>.la u z o n
  |none=>.zK
 |.os t z es=>match f t with
  |some u=>.os u z es
  |none=>.p (.sl z es)
 |.om t ks xs=>match f t with
  |some u=>.om u ks xs
  |none=>.zK
 |.ow t z es=>match f t with
  |some u=>.ow u z es
  |none=>.zK
 |.bb t T l=>match f t with
  |some u=>.bb u T l
  |none=>.zK
 |.bz t T m=>match f t with
  |some u=>.bz u T m
  |none=>.zK
 |.st t j=>match f t with
  |some u=>.st u j
  |none=>.zK
 |.it t ks xs l c=>match f t with
  |some u=>.it u ks xs l c
  |none=>.zK
 |.tup _=>.zK
 |.gd _ _=>.zK
 |.ag _=>.zK
 |.fn _ _=>.zK
 |x=>x
def u9(f:Tok→Option Tok):AV→AV
 |.ag xs=>.ag (xs.map (jt f))
 |.fn c xs=>.fn c (xs.map (jt f))
 |x=>jt f x
def AV.ren(f:Tok→Option Tok)(x:AV):AV:=x.upd (u9 f)
structure Ren(g:Gh)(g':Gh)(f:Tok→Option Tok):Prop where
 fr:g'.fr=g.fr
 kr:∀b t u,f t=some u→g.K b=.root t→g'.K b=.root u
 kt:∀b t u,f t=some u→g.K b=.tail t→g'.K b=.tail u
theorem za.jt {g g':Gh} {w:World} {f:Tok→Option Tok}(k:Ren g g' f)(x:AV)(v:Value)(r:za g w x v):za g' w (jt f x) v:=by
 cases x with
 |p x=>simp only[AM.jt,za]at r⊢;rw[k.fr];exact r
 |os t z es=>
  simp only[za]at r
  simp only[AM.jt]
  split
  ·rename_i u hu
   simp only[za]
   rw[k.fr]
   refine⟨r.1,r.2.imp id ?_⟩
   rintro⟨b,o,len,cap,e,hk,hf,hb⟩
   exact⟨b,o,len,cap,e,k.kt b t u hu hk,hf,hb⟩
  ·simp only[za];rw[k.fr];exact r.1
 |om t ks xs=>
  simp only[AM.jt]
  split
  ·rename_i u hu
   simp only[za]at r⊢
   obtain⟨b,arr,c,e,hk,rest⟩:=r
   rw[k.fr]
   exact⟨b,arr,c,e,k.kt b t u hu hk,rest⟩
  ·simp only[za]
 |ow t z es=>
  simp only[AM.jt]
  split
  ·rename_i u hu
   simp only[za]at r⊢
   exact r
  ·simp only[za]
 |lp t o=>
  simp only[AM.jt]
  split
  ·rename_i u hu
   simp only[za]at r⊢
   obtain⟨b,hk,e⟩:=r
   exact⟨b,k.kr b t u hu hk,e⟩
  ·simp only[za]
 |la t z o n=>
  simp only[AM.jt]
  split
  ·rename_i u hu
   simp only[za]at r⊢
   obtain⟨b,o',cap,hk,e,hn⟩:=r
   exact⟨b,o',cap,k.kr b t u hu hk,e,hn⟩
  ·simp only[za]
 |bz t T m=>
  simp only[AM.jt]
  split
  ·rename_i u hu
   simp only[za]at r⊢
   obtain⟨b,hk,hb,e⟩:=r
   exact⟨b,k.kr b t u hu hk,hb,e⟩
  ·simp only[za]
 |bb t T l=>
  simp only[AM.jt]
  split
  ·rename_i u hu
   simp only[za]at r⊢
   rw[k.fr]
   refine r.imp id ?_
   rintro⟨b,cap,arr,e,hk,rest⟩
   exact⟨b,cap,arr,e,k.kt b t u hu hk,rest⟩
  ·simp only[za]
 |st t j=>
  simp only[AM.jt]
  split
  ·rename_i u hu
   simp only[za]at r⊢
   obtain⟨b,arr,c,e,hk,rest⟩:=r
   exact⟨b,arr,c,e,k.kt b t u hu hk,rest⟩
  ·simp only[za]
 |it t ks xs l c=>
  simp only[AM.jt]
  split
  ·rename_i u hu
   simp only[za]at r⊢
   rw[k.fr]
   obtain⟨b,bm,since,seen,c0,arr,clock,e,hk,rest⟩:=r
   exact⟨b,bm,since,seen,c0,arr,clock,e,k.kt b t u hu hk,rest⟩
  ·simp only[za]
 |ip z e o=>simp only[AM.jt,za]at r⊢;rw[k.fr];exact r
 |_=>simp only[AM.jt,za]
theorem za.u9 {g g':Gh} {w:World} {f:Tok→Option Tok}(k:Ren g g' f)(x:AV)(v:Value)(r:za g w x v):za g' w (u9 f x) v:=by
 cases x with
 |ag xs=>
  simp only[AM.u9,za]at r⊢
  obtain⟨vs,e,h1,r⟩:=r
  exact⟨vs,e,h1,zm.map _ (za.jt k) xs _ r⟩
 |fn c xs=>
  simp only[AM.u9,za]at r⊢
  obtain⟨vs,e,r⟩:=r
  exact⟨vs,e,zm.map _ (za.jt k) xs _ r⟩
 |_=>exact za.jt k _ v r
theorem za.ren {g g':Gh} {w:World} {f:Tok→Option Tok}(k:Ren g g' f)(x:AV)(v:Value)(r:za g w x v):za g' w (x.ren f) v:=by
 cases x with
 |tup xs=>
  simp only[AV.ren,AV.upd,za]at r⊢
  obtain⟨vs,e,r⟩:=r
  exact⟨vs,e,zm.map _ (za.u9 k) xs _ r⟩
 |gd c x=>
  simp only[AV.ren,AV.upd,za]at r⊢
  exact⟨fun hc=>za.u9 k x v (r.1 hc),r.2⟩
 |_=>exact za.u9 k _ v r
def inM:List (Tok×Tok)→Tok→Option Tok
 | [],_=>none
 |(u,t)::m,x=>if t=x then some u else inM m x
def jK(d:Nat)(m:List (Tok×Tok))(u:Tok):Tok:=match zw m u with
 |some t=>t
 |none=>d::u
def z6(d:Nat):Tok→Bool
 | []=>true
 |k::_=>k !=d
def okM(d:Nat):List (Tok×Tok)→Bool
 | []=>true
 |(u,t)::m=>(zw m u).isNone&&(inM m t).isNone&&z6 d t&&okM d m
theorem ZM {d:Nat}:∀{m:List (Tok×Tok)},okM d m=true→∀{t u:Tok},inM m t=some u→zw m u=some t
 | [],_,t,u,h=>by simp[inM]at h
 |(u0,t0)::m,ok,t,u,h=>by
  simp only[okM,Bool.and_eq_true,Option.isNone_iff_eq_none]at ok
  simp only[inM]at h
  simp only[zw]
  split at h
  ·rename_i e;injection h with h;subst e;subst h;simp
  ·have ih:=ZM ok.2 h
   split
   ·rename_i e;subst e;rw[ok.1.1.1]at ih;cases ih
   ·exact ih
theorem yi {d:Nat}:∀{m:List (Tok×Tok)},okM d m=true→∀{t u:Tok},zw m u=some t→inM m t=some u∧z6 d t=true
 | [],_,t,u,h=>by simp[zw]at h
 |(u0,t0)::m,ok,t,u,h=>by
  simp only[okM,Bool.and_eq_true,Option.isNone_iff_eq_none]at ok
  simp only[zw]at h
  simp only[inM]
  split at h
  ·rename_i e;injection h with h;subst e;subst h;simp[ok.1.2]
  ·have ih:=yi ok.2 h
   split
   ·rename_i e;subst e;rw[ok.1.1.2]at ih;cases ih.1
   ·exact ih
theorem V8 {d:Nat} {m:List (Tok×Tok)}(ok:okM d m=true) {u u':Tok}(h:jK d m u=jK d m u'):u=u':=by
 unfold jK at h
 cases h1:zw m u with
 |some t=>
  rw[h1]at h
  cases h2:zw m u' with
  |some t'=>
   rw[h2]at h
   simp only[]at h
   subst h
   have a1:=(yi ok h1).1
   have a2:=(yi ok h2).1
   rw[a1]at a2;injection a2
  |none=>
   rw[h2]at h
   simp only[]at h
   have:=(yi ok h1).2
   rw[h]at this;simp[z6]at this
 |none=>
  rw[h1]at h
  cases h2:zw m u' with
  |some t'=>
   rw[h2]at h
   simp only[]at h
   have:=(yi ok h2).2
   rw[←h]at this;simp[z6]at this
  |none=>
   rw[h2]at h
   simp only[]at h
   injection h
theorem Ks {d:Nat} {m:List (Tok×Tok)}(ok:okM d m=true)(u:Tok):inM m (jK d m u)=some u∨z6 d (jK d m u)=false:=by
 unfold jK
 cases h1:zw m u with
 |some t=>exact .inl (yi ok h1).1
 |none=>exact .inr (by simp[z6])
def Zk(S:St)(m:List (Tok×Tok)):List (Tok×Tok)→List (Tok×List AV)
 | []=>[]
 |(u,t)::l=>match zw S.rs t with
  |some cs=>(u,cs.map (AV.ren (inM m)))::Zk S m l
  |none=>Zk S m l
theorem xt {S:St} {m0:List (Tok×Tok)}:∀{m:List (Tok×Tok)} {t u:Tok} {cs:List AV},zw m u=some t→zw S.rs t=some cs→zw (Zk S m0 m) u=some (cs.map (AV.ren (inM m0)))
 | [],t,u,cs,h,_=>by simp[zw]at h
 |(u0,t0)::m,t,u,cs,h,hl=>by
  simp only[zw]at h
  unfold Zk
  split at h
  ·rename_i e;injection h with h;subst e;subst h
   rw[hl];simp[zw]
  ·rename_i e
   have ih:=xt (m0:=m0) h hl
   split
   ·simp only[zw,if_neg e];exact ih
   ·exact ih
def ZZ(d:Nat)(m:List (Tok×Tok))(pin:List Tok)(t:Tok):Bool:=z6 d t&&match inM m t with
 |none=>true
 |some u=>pin.contains u
def ZE(d:Nat)(m:List (Tok×Tok))(t:Tok):Bool:=z6 d t&&(inM m t).isNone
def ku(d:Nat)(m:List (Tok×Tok)):List (Tok×List AV)→List (Tok×List AV)
 | []=>[]
 |(t,cs)::l=>if ZE d m t then(t,cs)::ku d m l else ku d m l
def WZ(d:Nat)(m:List (Tok×Tok))(rest:List (Tok×List AV)):List (Tok×List AV)→List (Tok×List AV)
 | []=>rest
 |(u,cs)::l=>(jK d m u,cs.map (AV.ren fun u=>some (jK d m u)))::WZ d m rest l
theorem vv {d:Nat} {m:List (Tok×Tok)} {t:Tok}(ht:ZE d m t=true):∀l:List (Tok×List AV),zw (ku d m l) t=zw l t
 | []=>rfl
 |(u,cs)::l=>by
  unfold ku
  split
  ·simp only[zw,vv ht l]
  ·rename_i h
   simp only[zw,vv ht l]
   split
   ·rename_i e;subst e;exact absurd ht h
   ·rfl
theorem VI {d:Nat} {m:List (Tok×Tok)}(ok:okM d m=true) {rest:List (Tok×List AV)} {t:Tok}(ht:ZE d m t=true):∀l:List (Tok×List AV),zw (WZ d m rest l) t=zw rest t
 | []=>rfl
 |(u,cs)::l=>by
  simp only[WZ,zw]
  split
  ·rename_i e
   simp only[ZE,Bool.and_eq_true,Option.isNone_iff_eq_none]at ht
   rcases Ks ok u with h|h
   ·rw[e,ht.2]at h;cases h
   ·rw[e,ht.1]at h;cases h
  ·exact VI ok ht l
theorem VF {d:Nat} {m:List (Tok×Tok)}(ok:okM d m=true) {rest:List (Tok×List AV)} {u:Tok} {cs:List AV}:∀{l:List (Tok×List AV)},zw l u=some cs→zw (WZ d m rest l) (jK d m u)=some (cs.map (AV.ren fun u=>some (jK d m u)))
 | [],h=>by simp[zw]at h
 |(u0,cs0)::l,h=>by
  simp only[zw]at h
  simp only[WZ,zw]
  split at h
  ·rename_i e;injection h with h;subst e;subst h;simp
  ·rename_i e
   rw[if_neg (fun h'=>e (V8 ok h'))]
   exact VF ok h
def wQ(S:St)(d:Nat)(m:List (Tok×Tok))(pin:List Tok)(rs':List (Tok×List AV)):St:=
 let S1:=S.fil (ZZ d m pin) (ZE d m)
 {S1 with rs:=WZ d m (ku d m S1.rs) rs'}
def Kd.ren(f:Tok→Option Tok):Kd→Kd
 |.prot=>.prot
 |.root t=>match f t with
  |some u=>.root u
  |none=>.prot
 |.tail t=>match f t with
  |some u=>.tail u
  |none=>.prot
theorem Kd.ZA {f:Tok→Option Tok} {u:Tok}:∀{k:Kd},k.ren f=.root u↔∃t,k=.root t∧f t=some u
 |.prot=>by simp[Kd.ren]
 |.root t=>by
  simp only[Kd.ren]
  cases h:f t<;>simp[h]
 |.tail t=>by
  simp only[Kd.ren]
  cases h:f t<;>simp
theorem Kd.yu {f:Tok→Option Tok} {u:Tok}:∀{k:Kd},k.ren f=.tail u↔∃t,k=.tail t∧f t=some u
 |.prot=>by simp[Kd.ren]
 |.root t=>by
  simp only[Kd.ren]
  cases h:f t<;>simp
 |.tail t=>by
  simp only[Kd.ren]
  cases h:f t<;>simp[h]
def Gh.Zr(g:Gh)(m:List (Tok×Tok)):Gh:=⟨g.fr,fun b=>(g.K b).ren (inM m)⟩
theorem Ren.Zr(g:Gh)(m:List (Tok×Tok)):Ren g (g.Zr m) (inM m):=
 ⟨rfl,fun _ t _ hu hk=>Kd.ZA.2 ⟨t,hk,hu⟩,fun _ t _ hu hk=>Kd.yu.2 ⟨t,hk,hu⟩⟩
theorem SR.Zr [Gi] {E:Ent} {S:St} {g:Gh} {a:Act} {w:World}(h:SR E S g a w) {d:Nat} {m:List (Tok×Tok)}(ok:okM d m=true):GS (g.Zr m) w (Zk S m m):=by
 refine⟨fun b u hk=>?_,fun b b' u hk hk'=>?_,fun b b' u hk hk'=>?_,fun b hb=>(h.own b (fun e=>hb ?_)).1,h.frb,fun b arr e=>⟨by show(g.K b).ren _=.prot;rw[(h.gl b arr e).1];rfl,(h.gl b arr e).2⟩⟩
 ·obtain⟨t,hk,hu⟩:=Kd.ZA.1 hk
  obtain⟨cs,hl,h0,arr,T,hb,hle,hc⟩:=h.roots b t hk
  refine⟨_,xt (ZM ok hu) hl,h0,arr,T,hb,by simpa using hle,fun j x hj=>?_⟩
  simp only[List.getElem?_map,Option.map_eq_some_iff]at hj
  obtain⟨y,hy,rfl⟩:=hj
  obtain⟨v,hv,h1,r⟩:=hc j y hy
  exact⟨v,hv,h1,za.ren (Ren.Zr g m) _ _ r⟩
 ·obtain⟨t,hk,hu⟩:=Kd.ZA.1 hk
  obtain⟨t',hk',hu'⟩:=Kd.ZA.1 hk'
  have e:=ZM ok hu
  rw[ZM ok hu']at e;injection e with e;subst e
  exact h.ur b b' _ hk hk'
 ·obtain⟨t,hk,hu⟩:=Kd.yu.1 hk
  obtain⟨t',hk',hu'⟩:=Kd.yu.1 hk'
  have e:=ZM ok hu
  rw[ZM ok hu']at e;injection e with e;subst e
  exact h.ut b b' _ hk hk'
 ·show(g.K b).ren _=.prot
  rw[e];rfl
open Classical in
theorem SR.Jf [Gi] {E:Ent} {S:St} {g:Gh} {a:Act} {w:World}(h:SR E S g a w) {d:Nat} {m:List (Tok×Tok)} {pin:List Tok}(ok:okM d m=true)(hpin:S.pin.all (ZZ d m pin)=true) {rs':List (Tok×List AV)} {g':Gh} {w':World}
  (hG:GS g' w' rs') (hA:Aft (g.Zr m) w g' w' pin):
  ∃g'',SR E (wQ S d m pin rs') g'' a w'∧∀x v,za g' w' x v→za g'' w' (x.ren fun u=>some (jK d m u)) v:=by
 have h1:=h.filter (ZZ d m pin) (ZE d m) (fun t ht=>List.all_eq_true.1 hpin t ht)
 let K'':Nat→Kd:=fun b=>if b<w.heap.size∧(g.Zr m).K b=.prot then(g.fil (ZZ d m pin) (ZE d m)).K b else(g'.K b).ren fun u=>some (jK d m u)
 have old:∀b,b<w.heap.size∧(g.Zr m).K b=.prot→K'' b=(g.fil (ZZ d m pin) (ZE d m)).K b:=fun b hb=>if_pos hb
 have nw:∀b,¬(b<w.heap.size∧(g.Zr m).K b=.prot)→K'' b=(g'.K b).ren fun u=>some (jK d m u):=fun b hb=>if_neg hb
 have hne:∀b,g'.K b≠ .prot→¬(b<w.heap.size∧(g.Zr m).K b=.prot):=fun b hb hc=>hb (hA.frame b hc.1 hc.2).2.2
 have rr:Ren g' ⟨g'.fr,K''⟩ (fun u=>some (jK d m u)):=⟨rfl,fun b t u hu hk=>by
   show K'' b=_
   rw[nw b (hne b (by rw[hk];simp)),hk]
   injection hu with hu;subst hu;rfl,fun b t u hu hk=>by
   show K'' b=_
   rw[nw b (hne b (by rw[hk];simp)),hk]
   injection hu with hu;subst hu;rfl⟩
 have hlt:∀b,(g.fil (ZZ d m pin) (ZE d m)).K b≠ .prot→b<w.heap.size:=fun b hb=>(h1.own b hb).1
 have keepRoot:∀b t,g.K b=.root t→ZZ d m pin t=true→K'' b=.root t:=fun b t hk ht=>by
  have hb:b<w.heap.size:=(h.own b (by rw[hk];simp)).1
  cases hi:inM m t with
  |none=>
   rw[old b ⟨hb,by show(g.K b).ren _=.prot;rw[hk];simp[Kd.ren,hi]⟩]
   exact Gh.zS.2 ⟨hk,ht⟩
  |some u=>
   have hc:(g.Zr m).K b=.root u:=Kd.ZA.2 ⟨t,hk,hi⟩
   have hp:u∈pin:=by
    unfold ZZ at ht
    rw[hi]at ht
    simp at ht
    exact ht.2
   rw[nw b (fun hx=>by rw[hc]at hx;cases hx.2),(hA.pins b u hc hp).1]
   simp only[Kd.ren,jK,ZM ok hi]
 have keepBlk:∀b t,g.K b=.root t→ZZ d m pin t=true→∀n,Blk w b n→Blk w' b n:=fun b t hk ht n hn=>by
  have hb:b<w.heap.size:=(h.own b (by rw[hk];simp)).1
  cases hi:inM m t with
  |none=>exact Blk.of_heap (hA.frame b hb (by show(g.K b).ren _=.prot;rw[hk];simp[Kd.ren,hi])).1 hn
  |some u=>
   have hc:(g.Zr m).K b=.root u:=Kd.ZA.2 ⟨t,hk,hi⟩
   have hp:u∈pin:=by
    unfold ZZ at ht
    rw[hi]at ht
    simp at ht
    exact ht.2
   exact(hA.pins b u hc hp).2 n hn
 have keepTail:∀b t,g.K b=.tail t→ZE d m t=true→b<w.heap.size∧(g.Zr m).K b=.prot∧K'' b=.tail t:=fun b t hk ht=>by
  have hb:b<w.heap.size:=(h.own b (by rw[hk];simp)).1
  have hi:inM m t=none:=by
   simp only[ZE,Bool.and_eq_true,Option.isNone_iff_eq_none]at ht;exact ht.2
  have hp:(g.Zr m).K b=.prot:=by show(g.K b).ren _=.prot;rw[hk];simp[Kd.ren,hi]
  exact⟨hb,hp,by rw[old b ⟨hb,hp⟩];exact Gh.qG.2 ⟨hk,ht⟩⟩
 have k:xc (g.fil (ZZ d m pin) (ZE d m)) w ⟨g'.fr,K''⟩ w' ftt ftt:=⟨hA.ext,fun b t _ hk=>⟨keepRoot b t (Gh.zS.1 hk).1 (Gh.zS.1 hk).2,keepBlk b t (Gh.zS.1 hk).1 (Gh.zS.1 hk).2⟩,fun b t _ hk=>by
   obtain⟨hb,hp,e⟩:=keepTail b t (Gh.qG.1 hk).1 (Gh.qG.1 hk).2
   exact⟨e,(hA.frame b hb hp).2.1,Zo (hA.frame b hb hp).1⟩⟩
 -- where a block's name comes from
 have from_r:∀b t,K'' b=.root t→(ZE d m t=true∧b<w.heap.size∧(g.Zr m).K b=.prot∧(g.fil (ZZ d m pin) (ZE d m)).K b=.root t)∨(∃u,t=jK d m u∧g'.K b=.root u):=fun b t hk=>by
  by_cases hb:b<w.heap.size∧(g.Zr m).K b=.prot
  ·rw[old b hb]at hk
   have h2:=Gh.zS.1 hk
   have hi:inM m t=none:=by
    cases hi:inM m t with
    |none=>rfl
    |some u=>have:(g.Zr m).K b=.root u:=Kd.ZA.2 ⟨t,h2.1,hi⟩;rw[hb.2]at this;cases this
   have:ZE d m t=true:=by
    have h3:=h2.2
    unfold ZZ at h3
    simp only[ZE,hi,Bool.and_eq_true]at h3⊢
    exact⟨h3.1,rfl⟩
   exact .inl ⟨this,hb.1,hb.2,hk⟩
  ·rw[nw b hb]at hk
   obtain⟨u,hu,e⟩:=Kd.ZA.1 hk
   injection e with e
   exact .inr ⟨u,e.symm,hu⟩
 have from_t:∀b t,K'' b=.tail t→(ZE d m t=true∧(g.fil (ZZ d m pin) (ZE d m)).K b=.tail t)∨(∃u,t=jK d m u∧g'.K b=.tail u):=fun b t hk=>by
  by_cases hb:b<w.heap.size∧(g.Zr m).K b=.prot
  ·rw[old b hb]at hk
   exact .inl ⟨(Gh.qG.1 hk).2,hk⟩
  ·rw[nw b hb]at hk
   obtain⟨u,hu,e⟩:=Kd.yu.1 hk
   injection e with e
   exact .inr ⟨u,e.symm,hu⟩
 have clash:∀u,ZE d m (jK d m u)=true→False:=fun u hu=>by
  simp only[ZE,Bool.and_eq_true,Option.isNone_iff_eq_none]at hu
  rcases Ks ok u with h|h
  ·rw[hu.2]at h;cases h
  ·rw[hu.1]at h;cases h
 refine⟨⟨g'.fr,K''⟩,?_,fun x v r=>za.ren rr x v r⟩
 refine⟨h1.size,h1.defers,fun t=>za.all k _ _ (h1.slots t),fun b t hk=>?_,fun b b' t hk hk'=>?_,fun b b' t hk hk'=>?_,fun b hb=>?_,fun b hb=>?_,h1.ext.trans hA.ext,
   ⟨hA.out.1.trans h1.out.1,hA.out.2.1.trans h1.out.2.1,hA.out.2.2.trans h1.out.2.2⟩,Nat.le_trans h1.mono hA.mono,hG.frb,fun b t hk ht=>?_⟩
 ·rcases from_r b t hk with ⟨ht,hb,hp,hk⟩|⟨u,rfl,hk2⟩
  ·obtain⟨cs,hl,h0,arr,T,hbh,hle,hc⟩:=h1.roots b t hk
   refine⟨cs,?_,(hA.frame b hb hp).2.1.trans h0,arr,T,(hA.frame b hb hp).1.trans hbh,hle,fun j x hj=>let⟨v,hv,e,r⟩:=hc j x hj;⟨v,hv,e,za.all k _ _ r⟩⟩
   show zw (WZ d m (ku d m _) rs') t=_
   rw[VI ok ht,vv ht];exact hl
  ·obtain⟨cs,hl,h0,arr,T,hbh,hle,hc⟩:=hG.roots b u hk2
   refine⟨_,VF ok hl,h0,arr,T,hbh,by simpa using hle,fun j x hj=>?_⟩
   simp only[List.getElem?_map,Option.map_eq_some_iff]at hj
   obtain⟨y,hy,rfl⟩:=hj
   obtain⟨v,hv,e,r⟩:=hc j y hy
   exact⟨v,hv,e,za.ren rr y v r⟩
 ·rcases from_r b t hk with ⟨ht,_,_,hk⟩|⟨u,rfl,hk2⟩
  ·rcases from_r b' t hk' with ⟨_,_,_,hk'⟩|⟨u',rfl,hk'⟩
   ·exact h1.ur b b' t hk hk'
   ·exact(clash _ ht).elim
  ·rcases from_r b' _ hk' with ⟨ht,_,_,hk'⟩|⟨u',e,hk'⟩
   ·exact(clash _ ht).elim
   ·have:=V8 ok e;subst this;exact hG.ur b b' _ hk2 hk'
 ·rcases from_t b t hk with ⟨ht,hk⟩|⟨u,rfl,hk2⟩
  ·rcases from_t b' t hk' with ⟨_,hk'⟩|⟨u',rfl,hk'⟩
   ·exact h1.ut b b' t hk hk'
   ·exact(clash _ ht).elim
  ·rcases from_t b' _ hk' with ⟨ht,hk'⟩|⟨u',e,hk'⟩
   ·exact(clash _ ht).elim
   ·have:=V8 ok e;subst this;exact hG.ut b b' _ hk2 hk'
 ·have hb':K'' b≠ .prot:=hb
  by_cases hc:b<w.heap.size∧(g.Zr m).K b=.prot
  ·rw[old b hc]at hb'
   exact⟨Nat.lt_of_lt_of_le hc.1 hA.mono,(h1.own b hb').2⟩
  ·rw[nw b hc]at hb'
   have hg':g'.K b≠ .prot:=fun e=>hb' (by rw[e];rfl)
   refine⟨hG.own b hg',?_⟩
   by_cases hlt:b<w.heap.size
   ·have:g.K b≠ .prot:=fun e=>hc ⟨hlt,by show(g.K b).ren _=.prot;rw[e];rfl⟩
    exact(h.own b this).2
   ·exact .inl (by have:=h.mono;omega)
 ·have hlt:=h.yQ hb
  have hg:g.K b=.prot:=by
   rcases em (g.K b=.prot)with e|e
   ·exact e
   ·exact absurd (h.own b e).2 hb
  have hp:(g.Zr m).K b=.prot:=by show(g.K b).ren _=.prot;rw[hg];rfl
  exact⟨(hA.frame b hlt hp).1.trans (h.frame b hb).1,(hA.frame b hlt hp).2.1.trans (h.frame b hb).2⟩
 ·have hp:t∈S.pin:=ht
  exact⟨keepRoot b t (h.pins b t hk hp).1 (List.all_eq_true.1 hpin t hp),fun n hn=>keepBlk b t (h.pins b t hk hp).1 (List.all_eq_true.1 hpin t hp) n ((h.pins b t hk hp).2 n hn)⟩
def zcG(m:List (Tok×Tok))(x:AV):AV:=match x with
 |.ag _=>match toP x with
  |some y=>.p y
  |none=>x.ren (inM m)
 |x=>x.ren (inM m)
def Zz(S:St)(m:List (Tok×Tok)):List Operand→Prop×List AV
 | []=>(True,[])
 |x::rest=>((unG (S.ev x)).1∧(Zz S m rest).1,zcG m (unG (S.ev x)).2::(Zz S m rest).2)
theorem KI {g:Gh} {w:World} {m:List (Tok×Tok)} {x:AV} {v:Value}(r:za g w x v):za (g.Zr m) w (zcG m x) v:=by
 cases x with
 |ag xs=>
  simp only[zcG]
  split
  ·rename_i y hy
   have:=zan hy r
   simpa only[za,Gh.Zr]using this
  ·exact za.ren (Ren.Zr g m) _ _ r
 |_=>exact za.ren (Ren.Zr g m) _ _ r
theorem kq [Gi] {E:Ent} {S:St} {g:Gh} {a:Act} {w:World}(hS:SR E S g a w) {m:List (Tok×Tok)}:∀{ps:List Operand},(Zz S m ps).1→zm (g.Zr m) w (Zz S m ps).2 (ps.map a.eval)
 | [],h=>by simp[Zz,zm]
 |x::rest,h=>by
  simp only[Zz,List.map_cons,zm]at h⊢
  exact⟨_,_,rfl,KI (zp h.1 (hS.ev x)),kq hS h.2⟩
def UO [Gi](P:Program)(S:St)(f:FuncId)(args:List Operand)(dst:Option Nat)(K:St→Prop):Prop:=
 ∃(m:List (Tok×Tok)) (pin:List Tok) (R:AV→List (Tok×List AV)→Prop),(okM (dst.getD S.n) m=true∧S.pin.all (ZZ (dst.getD S.n) m pin)=true∧dOK S dst)∧(Zz S m args).1∧CR P f pin (Zz S m args).2 (Zk S m m) R∧
  ∀x rs',R x rs'→K ((wQ S (dst.getD S.n) m pin rs').qg dst (x.ren fun u=>some (jK (dst.getD S.n) m u)))
def zbb:AV→Option FuncId
 |.p (.opq (.func (.func f) a b))=>if a.size=0∧b.size=0 then some f else none
 |.gd true (.p (.opq (.func (.func f) a b)))=>if a.size=0∧b.size=0 then some f else none
 |_=>none
theorem KJ {g:Gh} {w:World} {x:AV} {v:Value} {f:FuncId}(hf:zbb x=some f)(hr:za g w x v):v=.func (.func f) #[] #[]:=by
 unfold zbb at hf
 split at hf
 ·rename_i f' p q
  split at hf
  ·rename_i hs
   injection hf with hf;subst hf
   have hp:p= #[]:=Array.eq_empty_of_size_eq_zero hs.1
   have hq:q= #[]:=Array.eq_empty_of_size_eq_zero hs.2
   subst hp;subst hq
   simpa only[za,zi]using hr
  ·cases hf
 ·rename_i f' p q
  split at hf
  ·rename_i hs
   injection hf with hf;subst hf
   have hp:p= #[]:=Array.eq_empty_of_size_eq_zero hs.1
   have hq:q= #[]:=Array.eq_empty_of_size_eq_zero hs.2
   subst hp;subst hq
   simp only[za,zi]at hr
   exact hr.1 trivial
  ·cases hf
 ·cases hf
def zcj [Gi](P:Program)(S:St)(f:FuncId)(cs:List AV)(args:List Operand)(dst:Option Nat)(K:St→Prop):Prop:=
 ∃(m:List (Tok×Tok)) (pin:List Tok) (R:AV→List (Tok×List AV)→Prop),(okM (dst.getD S.n) m=true∧S.pin.all (ZZ (dst.getD S.n) m pin)=true∧dOK S dst)∧(Zz S m args).1∧CR P f pin ((Zz S m args).2++cs.map (zcG m)) (Zk S m m) R∧
  ∀x rs',R x rs'→K ((wQ S (dst.getD S.n) m pin rs').qg dst (x.ren fun u=>some (jK (dst.getD S.n) m u)))
def W2 [Gi](P:Program)(S:St)(o:Oper)(K:St→Prop):Prop:=
 match o.op with
 |.call c=>
  match c.callee with
  |.value x=>
   match zbb (S.ev x)with
   |some f=>(((P.funcs[f]?).map (·.body.isSome))=some true∧((P.funcs[f]?).map (·.name))≠some "runtime.NumGoroutine")∧UO P S f c.args.toList o.dst K
   |none=>match(unG (S.ev x)).2 with
    |.fn f cs=>((((P.funcs[f]?).map (·.body.isSome))=some true∧((P.funcs[f]?).map (·.name))≠some "runtime.NumGoroutine")∧(unG (S.ev x)).1)∧zcj P S f cs c.args.toList o.dst K
    |_=>False
  |_=>False
 |.next x isS=>match isS,(unG (S.ev x)).2 with
  |false,.it t ks xs left _=>((unG (S.ev x)).1∧dOK S o.dst)∧(left=[]→K (S.qg o.dst (.tup [.p (.bool false)])))∧∀i∈left,K ((S.itz t (left.filter (· !=i)) (some i)).qg o.dst (.tup [.p (.bool true),.p (elemAt ks i),.p (elemAt xs i)]))
  |_,_=>False
 |_=>False
def zeE(S:St)(d:Nat)(x:AV):Bool:=
 match x with
 |.la _ _ _ _=>true
 |.ow _ _ _=>true
 |x=>Zv x&&S.rm.contains d
def we(P:Program)(S:St)(d:Nat)(sT xT:TypeId)(x y:AV):Prop×St:=if zeE S d x then vX P S d sT xT x y else uu P S d sT xT x y
theorem Ke [Gi] {P:Program} {E:Ent} {S:St} {g:Gh} {a:Act} {w:World}(hS:SR E S g a w) {d:Nat} {sT xT tt:TypeId} {x y:AV} {u v:Value}(h:(we P S d sT xT x y).1)
  (rx:za g w x u) (ry:za g w y v):
  ∃r w' g',(Builtin.append_ #[sT,xT] tt #[u,v]).run P w=.ok r w'∧SR E (we P S d sT xT x y).2 g' (a.put (some d) r) w':=by
 unfold we at h⊢
 split at h
 ·rename_i hc;rw[if_pos hc];exact Kk hS h rx ry
 ·rename_i hc;rw[if_neg hc];exact J3 hS h rx ry
def X5(P:Program)(S:St)(o:Oper):Option (Prop×St):=
 match o.op with
 |.assign x=>some (xS P S o.dst o.type (S.ev x))
 |.alloc T=>some (uG P S o.dst T)
 |.box _ x=>some (zeb S o.dst x)
 |.store T x y=>some ((((unG (S.ev x)).1∧(unG (S.ev y)).1)∧o.dst=none)∧(WA P S T (unG (S.ev x)).2 (unG (S.ev y)).2).1,(WA P S T (unG (S.ev x)).2 (unG (S.ev y)).2).2)
 |.buildSlice T n parts=>match o.dst with
  |some d=>some (if(Zg S parts.toList).2.isNone then jO P S d T n parts.toList else Q8 P S d T n parts.toList)
  |none=>none
 |.call c=>match c.callee,c.args.toList,c.argTypes.toList,o.dst with
  |.builtin .append,[x,y],[sT,xT],some d=>some (((unG (S.ev x)).1∧(unG (S.ev y)).1)∧(we P S d sT xT (unG (S.ev x)).2 (unG (S.ev y)).2).1,(we P S d sT xT (unG (S.ev x)).2 (unG (S.ev y)).2).2)
  |.builtin .copy,[x,y],[sT,_],dst=>some ((((unG (S.ev x)).1∧(unG (S.ev y)).1)∧dOK S dst)∧(xq P S sT (unG (S.ev x)).2 (unG (S.ev y)).2).1,(xq P S sT (unG (S.ev x)).2 (unG (S.ev y)).2).2.2.qg dst (.p (.int .i64 (xq P S sT (unG (S.ev x)).2 (unG (S.ev y)).2).2.1)))
  |.builtin .clear,[x],[sT],none=>some ((unG (S.ev x)).1∧(uK P S sT (unG (S.ev x)).2).1,(uK P S sT (unG (S.ev x)).2).2)
  |_,_,_,_=>none
 |.makeSlice T l c=>match o.dst with
  |some d=>some (((unG (S.ev l)).1∧(unG (S.ev c)).1)∧(QW P S d T (unG (S.ev l)).2 (unG (S.ev c)).2).1,(QW P S d T (unG (S.ev l)).2 (unG (S.ev c)).2).2)
  |none=>none
 |.convert s t x=>match o.dst with
  |some d=>some ((unG (S.ev x)).1∧(sbD P S d s t (unG (S.ev x)).2).1,(sbD P S d s t (unG (S.ev x)).2).2)
  |none=>none
 |.mapEntry T m k=>match o.dst with
  |some d=>some (((unG (S.ev m)).1∧(unG (S.ev k)).1)∧(xW P S d T (unG (S.ev m)).2 (unG (S.ev k)).2).1,(xW P S d T (unG (S.ev m)).2 (unG (S.ev k)).2).2)
  |none=>none
 |.entryStore _ m s x=>some ((((unG (S.ev m)).1∧(unG (S.ev s)).1∧(unG (S.ev x)).1)∧o.dst=none)∧(Wp S (unG (S.ev m)).2 (unG (S.ev s)).2 (unG (S.ev x)).2).1,(Wp S (unG (S.ev m)).2 (unG (S.ev s)).2 (unG (S.ev x)).2).2)
 |.range T x=>match o.dst with
  |some d=>some ((unG (S.ev x)).1∧(Wt P S d T (unG (S.ev x)).2).1,(Wt P S d T (unG (S.ev x)).2).2)
  |none=>none
 |.entry x=>some (((unG (S.ev x)).1∧dOK S o.dst)∧(Wu (unG (S.ev x)).2).1,S.qg o.dst (Wu (unG (S.ev x)).2).2)
 |.makeMap _ none=>match o.dst with
  |some d=>some (vY S d)
  |none=>none
 |.insert T m k x=>some ((((unG (S.ev m)).1∧(unG (S.ev k)).1∧(unG (S.ev x)).1)∧o.dst=none)∧(kd P S T (unG (S.ev m)).2 (unG (S.ev k)).2 (unG (S.ev x)).2).1,(kd P S T (unG (S.ev m)).2 (unG (S.ev k)).2 (unG (S.ev x)).2).2)
 |.mapUpdate T m k x=>some ((((unG (S.ev m)).1∧(unG (S.ev k)).1∧(unG (S.ev x)).1)∧o.dst=none)∧(kd P S T (unG (S.ev m)).2 (unG (S.ev k)).2 (unG (S.ev x)).2).1,(kd P S T (unG (S.ev m)).2 (unG (S.ev k)).2 (unG (S.ev x)).2).2)
 |_=>none
theorem zg8(P:Program)(S:St)(T:TypeId)(x y:AV):(xq P S T x y).2.2.n=S.n:=by
 unfold xq
 split
 ·split<;>rfl
 ·rfl
theorem zcI [Gi] {P:Program} {E:Ent} {S:St} {g:Gh} {a:Act} {w:World}(hS:SR E S g a w) {o:Oper} {r:Prop×St}(e:X5 P S o=some r)(h:r.1):
  ∃v w' g',Ran P o a w v w'∧SR E r.2 g' (a.put o.dst v) w':=by
 obtain⟨dst,op,tt,pos,after,guard⟩:=o
 unfold X5 at e
 cases op with
 |assign x=>
  simp only[Option.some.injEq]at e;subst e
  exact wI (o:=⟨dst,.assign x,tt,pos,after,guard⟩) hS rfl h
 |alloc T=>
  simp only[Option.some.injEq]at e;subst e
  exact Yb (o:=⟨dst,.alloc T,tt,pos,after,guard⟩) hS rfl h
 |box T x=>
  simp only[Option.some.injEq]at e;subst e
  exact zaJ (o:=⟨dst,.box T x,tt,pos,after,guard⟩) hS rfl h
 |store T x y=>
  simp only[Option.some.injEq]at e;subst e
  obtain⟨⟨⟨h1,h2⟩,h3⟩,h4⟩:=h
  have h3:dst=none:=h3
  subst h3
  obtain⟨w',g',k1,k2⟩:=JT (P:=P) hS h4 (zp h1 (hS.ev x)) (zp h2 (hS.ev y))
  refine⟨undef,w',g',.inr ⟨?_,rfl⟩,k2⟩
  simp only[execOp,Sem.run_bind,k1,Result.andThen_ok,Sem.run_pure]
 |buildSlice T n parts=>
  cases dst with
  |none=>simp at e
  |some d=>
   simp only[Option.some.injEq]at e;subst e
   split at h
   ·rename_i hc
    rw[if_pos hc]
    obtain⟨r,w',g',k1,k2⟩:=Vl (P:=P) hS h
    exact⟨r,w',g',.inl (zM k1),k2⟩
   ·rename_i hc
    rw[if_neg hc]
    obtain⟨r,w',g',k1,k2⟩:=uR (P:=P) hS h
    exact⟨r,w',g',.inl (zM k1),k2⟩
 |call c=>
  obtain⟨callee,args,argTypes⟩:=c
  simp only[]at e
  split at e
  ·rename_i x y sT xT d h1 h2
   simp only[Option.some.injEq]at e;subst e
   have ha:args= #[x,y]:=by rw[←Array.toArray_toList (xs:=args),h1]
   have ht:argTypes= #[sT,xT]:=by rw[←Array.toArray_toList (xs:=argTypes),h2]
   subst ha;subst ht
   obtain⟨r,w',g',k1,k2⟩:=Ke (P:=P) (tt:=tt) hS h.2 (zp h.1.1 (hS.ev x)) (zp h.1.2 (hS.ev y))
   refine⟨r,w',g',.inl (zM ?_),k2⟩
   have hm:Array.map a.eval #[x,y]= #[a.eval x,a.eval y]:=by simp
   simp only[hm]
   exact k1
  ·rename_i d x y sT xT h1 h2
   simp only[Option.some.injEq]at e;subst e
   have ha:args= #[x,y]:=by rw[←Array.toArray_toList (xs:=args),h1]
   have ht:argTypes= #[sT,xT]:=by rw[←Array.toArray_toList (xs:=argTypes),h2]
   subst ha;subst ht
   obtain⟨w',g',k1,k2⟩:=zbz (P:=P) (T':=xT) (tt:=tt) hS h.2 (zp h.1.1.1 (hS.ev x)) (zp h.1.1.2 (hS.ev y))
   refine⟨.int .i64 (xq P S sT (unG (S.ev x)).2 (unG (S.ev y)).2).2.1,w',g',.inl (zM ?_),k2.qg (by simp only[za,zi]) ?_⟩
   ·have hm:Array.map a.eval #[x,y]= #[a.eval x,a.eval y]:=by simp
    simp only[hm]
    exact k1
   ·have:=h.1.2
    unfold dOK at this⊢
    rw[zg8];exact this
  ·rename_i x sT h1 h2
   simp only[Option.some.injEq]at e;subst e
   have ha:args= #[x]:=by rw[←Array.toArray_toList (xs:=args),h1]
   have ht:argTypes= #[sT]:=by rw[←Array.toArray_toList (xs:=argTypes),h2]
   subst ha;subst ht
   obtain⟨w',g',k1,k2⟩:=Y4 (P:=P) (tt:=tt) hS h.2 (zp h.1 (hS.ev x))
   refine⟨.tuple #[],w',g',.inl (zM ?_),k2⟩
   have hm:Array.map a.eval #[x]= #[a.eval x]:=by simp
   simp only[hm]
   exact k1
  ·cases e
 |convert s t x=>
  cases dst with
  |none=>simp at e
  |some d=>
   simp only[Option.some.injEq]at e;subst e
   obtain⟨r,w',g',k1,k2⟩:=zfU (P:=P) hS h.2 (zp h.1 (hS.ev x))
   exact⟨r,w',g',.inl (zM k1),k2⟩
 |mapEntry T m k=>
  cases dst with
  |none=>simp at e
  |some d=>
   simp only[Option.some.injEq]at e;subst e
   obtain⟨r,w',g',k1,k2⟩:=U6 (P:=P) hS h.2 (zp h.1.1 (hS.ev m)) (zp h.1.2 (hS.ev k))
   exact⟨r,w',g',.inl (zM k1),k2⟩
 |entryStore T m s x=>
  simp only[Option.some.injEq]at e;subst e
  obtain⟨⟨⟨h1,h2,h3⟩,h4⟩,h5⟩:=h
  have h4:dst=none:=h4
  subst h4
  obtain⟨w',g',k1,k2⟩:=JL (P:=P) (T:=T) hS h5 (zp h1 (hS.ev m)) (zp h2 (hS.ev s)) (zp h3 (hS.ev x))
  refine⟨undef,w',g',.inr ⟨?_,rfl⟩,k2⟩
  simp only[execOp,Sem.run_bind,k1,Result.andThen_ok,Sem.run_pure]
 |range T x=>
  cases dst with
  |none=>simp at e
  |some d=>
   simp only[Option.some.injEq]at e;subst e
   obtain⟨r,w',g',k1,k2⟩:=Ya (P:=P) hS h.2 (zp h.1 (hS.ev x))
   exact⟨r,w',g',.inl (zM k1),k2⟩
 |entry x=>
  simp only[Option.some.injEq]at e;subst e
  obtain⟨v,k1,k2⟩:=J4 (P:=P) h.2 (zp h.1.1 (hS.ev x))
  exact⟨v,w,g,.inl (zM k1),hS.qg k2 h.1.2⟩
 |makeMap T r=>
  cases r with
  |some r=>cases e
  |none=>
   cases dst with
   |none=>simp at e
   |some d=>
    simp only[Option.some.injEq]at e;subst e
    obtain⟨r,w',g',k1,k2⟩:=UA (P:=P) (T:=T) hS h
    exact⟨r,w',g',.inl (zM k1),k2⟩
 |insert T m k x=>
  simp only[Option.some.injEq]at e;subst e
  obtain⟨⟨⟨h1,h2,h3⟩,h4⟩,h5⟩:=h
  have h4:dst=none:=h4
  subst h4
  obtain⟨w',g',k1,k2⟩:=wK (P:=P) hS h5 (zp h1 (hS.ev m)) (zp h2 (hS.ev k)) (zp h3 (hS.ev x))
  refine⟨undef,w',g',.inr ⟨?_,rfl⟩,k2⟩
  simp only[execOp,Sem.run_bind,k1,Result.andThen_ok,Sem.run_pure]
 |mapUpdate T m k x=>
  simp only[Option.some.injEq]at e;subst e
  obtain⟨⟨⟨h1,h2,h3⟩,h4⟩,h5⟩:=h
  have h4:dst=none:=h4
  subst h4
  obtain⟨w',g',k1,k2⟩:=wK (P:=P) hS h5 (zp h1 (hS.ev m)) (zp h2 (hS.ev k)) (zp h3 (hS.ev x))
  refine⟨undef,w',g',.inr ⟨?_,rfl⟩,k2⟩
  simp only[execOp,Sem.run_bind,k1,Result.andThen_ok,Sem.run_pure]
 |makeSlice T l c=>
  cases dst with
  |none=>simp at e
  |some d=>
   simp only[Option.some.injEq]at e;subst e
   obtain⟨r,w',g',k1,k2⟩:=Vi (P:=P) hS h.2 (zp h.1.1 (hS.ev l)) (zp h.1.2 (hS.ev c))
   exact⟨r,w',g',.inl (zM k1),k2⟩
 |_=>cases e
def Vo [Gi](P:Program)(S:St)(o:Oper)(K:St→Prop):Prop:=
 match X5 P S o with
 |some r=>r.1∧K r.2
 |none=>W2 P S o K
def QQ [Gi](P:Program)(S:St)(o:Oper)(c:Option Bool)(K:St→Prop):Prop:=
 match qE P S o with
 |some r=>
  match c with
  |none=>(r.1∧dOK S o.dst)∧K (S.qg o.dst r.2)
  |some c=>((c=true→r.1)∧dOK S o.dst)∧K (S.qg o.dst (.gd c r.2))
 |none=>
  match c with
  |none=>Vo P S o K
  |some c=>(c=true→Vo P S o K)∧(c=false→dOK S o.dst∧K (S.qg o.dst (.gd false .zK)))
def Yd(x:AV)(want:Bool):Option Bool:=
 match x with
 |.p (.bool b)=>some (b==want)
 |.gd c (.p (.bool b))=>some (c&&(b==want))
 |.gd false _=>some false
 |_=>none
def zY(ops:Array Oper)(S:St)(o:Oper):Option (Option Bool):=
 match o.guard with
 |none=>some none
 |some (j,want)=>
  match(ops[j]?).bind (·.dst)with
  |some t=>(Yd (S.get t) want).map some
  |none=>none
def ZW [Gi](P:Program)(ops:Array Oper):List Oper→St→(St→Prop)→Prop
 | [],S,K=>K S
 |o::rest,S,K=>
  match zY ops S o with
  |some c=>QQ P S o c fun S'=>ZW P ops rest S' K
  |none=>False
theorem jZ {P:Program} {w:World} {f:FuncId} {args:Array Value}(h:((P.funcs[f]?).map (·.body.isSome))=some true)(hn:((P.funcs[f]?).map (·.name))≠some "runtime.NumGoroutine"):
  (callFunc f args).run P w=.ok (.enter f args) w:=by
 cases hf:P.funcs[f]? with
 |none=>rw[hf]at h;cases h
 |some fn=>
  rw[hf]at h hn
  simp at h hn
  unfold callFunc
  simp only[Sem.run_bind,run_program,Result.andThen_ok,hf]
  rw[if_neg (by simpa using hn)]
  have h':fn.body.isNone=false:=by
   cases hb:fn.body with
   |none=>rw[hb]at h;simp at h
   |some c=>rfl
  rw[h']
  rfl
theorem UE [Gi] {P:Program} {E:Ent} {S:St} {g:Gh} {a:Act} {w:World}(hS:SR E S g a w) {o:Oper} {K:St→Prop} {next:Act→World→Prop} {Q:Exit→Act→World→Prop}(h:Vo P S o K)
  (hK:∀S' g' a' w',K S'→SR E S' g' a' w'→next a' w'):o.wp P a w next Q:=by
 unfold Vo at h
 cases he:X5 P S o with
 |some r=>
  simp only[he]at h
  obtain⟨v,w',g',hr,hs⟩:=zcI hS he h.1
  unfold Oper.wp
  rcases hr with hr|⟨hr,rfl⟩
  ·rw[hr];exact hK _ _ _ _ h.2 hs
  ·rw[hr];exact hK _ _ _ _ h.2 hs
 |none=>
  simp only[he]at h
  unfold W2 at h
  obtain⟨dst,op,tt,pos,after,guard⟩:=o
  split at h
  ·rename_i c e1
   simp only[]at e1
   subst e1
   obtain⟨callee,args,argTypes⟩:=c
   simp only[]at h
   split at h
   ·rename_i x
    split at h
    ·rename_i f hf
     obtain⟨⟨hb,hn⟩,m,pin,R,⟨hok,hpn,hd⟩,h1,hCR,hR⟩:=h
     have hfv:a.eval x=.func (.func f) #[] #[]:=KJ hf (hS.ev x)
     have hargs:=kq hS h1
     have ym:=hCR w (g.Zr m) (args.toList.map a.eval) hargs (hS.Zr hok)
     have hrun:(execOp a.eval ⟨dst,.call ⟨.value x,args,argTypes⟩,tt,pos,after,guard⟩).run P w=.ok (.enter f (args.toList.map a.eval).toArray) w:=by
      simp only[execOp,resolve,hfv,Deferred.ofValue,Sem.run_bind,Sem.run_pure,Result.andThen_ok,invoke]
      rw[jZ hb hn]
      congr 2
      apply Array.ext'
      simp
     unfold Oper.wp
     rw[hrun]
     refine ym.mono ?_
     rintro e w' ⟨v,x,rs',g',rfl,hRx,hrep,hG,hA⟩
     have hKx:=hR x rs' hRx
     obtain⟨g'',k1,k2⟩:=hS.Jf hok hpn hG hA
     exact hK _ _ _ _ hKx (k1.qg (k2 _ _ hrep) hd)
    ·split at h
     ·rename_i f cs hf
      obtain⟨⟨⟨hb,hn⟩,hu⟩,m,pin,R,⟨hok,hpn,hd⟩,h1,hCR,hR⟩:=h
      have hr:=zp hu (hS.ev x)
      rw[hf]at hr
      simp only[za]at hr
      obtain⟨us,hfv,hus⟩:=hr
      have hargs:zm (g.Zr m) w ((Zz S m args.toList).2++cs.map (zcG m)) (args.toList.map a.eval++us.toList):=
       zm.append (kq hS h1) (zm.map _ (fun _ _=>KI) cs _ hus)
      have ym:=hCR w (g.Zr m) (args.toList.map a.eval++us.toList) hargs (hS.Zr hok)
      have hrun:(execOp a.eval ⟨dst,.call ⟨.value x,args,argTypes⟩,tt,pos,after,guard⟩).run P w=.ok (.enter f (args.toList.map a.eval++us.toList).toArray) w:=by
       simp only[execOp,resolve,hfv,Deferred.ofValue,Sem.run_bind,Sem.run_pure,Result.andThen_ok,invoke]
       rw[jZ hb hn]
       congr 2
       apply Array.ext'
       simp
      unfold Oper.wp
      rw[hrun]
      refine ym.mono ?_
      rintro e w' ⟨v,x,rs',g',rfl,hRx,hrep,hG,hA⟩
      have hKx:=hR x rs' hRx
      obtain⟨g'',k1,k2⟩:=hS.Jf hok hpn hG hA
      exact hK _ _ _ _ hKx (k1.qg (k2 _ _ hrep) hd)
     ·exact h.elim
   ·exact h.elim
  ·rename_i x isS e1
   simp only[]at e1
   subst e1
   split at h
   ·rename_i t ks xs left cur hx
    obtain⟨⟨hu,hd⟩,h1,h2⟩:=h
    have hr:=zp hu (hS.ev x)
    rw[hx]at hr
    unfold Oper.wp
    rcases zaP (P:=P) (T:=tt) hS hr with ⟨hl,hrun⟩|⟨i,hi,w',k,v,hrun,hs,hk,hv⟩
    ·have hrun':(execOp a.eval ⟨dst,.next x false,tt,pos,after,guard⟩).run P w=.ok (.value (.tuple #[.bool false])) w:=zM hrun
     rw[hrun']
     exact hK _ _ _ _ (h1 hl) (hS.qg (by simp only[za];exact⟨_,rfl,by simp[zm,za,zi]⟩) hd)
    ·have hrun':(execOp a.eval ⟨dst,.next x false,tt,pos,after,guard⟩).run P w=.ok (.value (.tuple #[.bool true,k,v])) w':=zM hrun
     rw[hrun']
     exact hK _ _ _ _ (h2 i hi) (hs.qg (by
      simp only[za]
      refine⟨_,rfl,?_⟩
      simp only[zm]
      exact⟨_,_,rfl,by simp only[za,zi],_,_,rfl,by simp only[za];exact hk,_,_,rfl,by simp only[za];exact hv,rfl⟩) hd)
   ·exact h.elim
  ·exact h.elim
end
end Go.AM
