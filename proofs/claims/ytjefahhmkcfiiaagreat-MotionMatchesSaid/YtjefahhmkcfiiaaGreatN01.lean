/- A part of the proof of this seat's statements, by an abstract machine: what each operation does to values, and what the law's functions compute. Conditions: as each law says. -/
import Derived.Test.YtjefahhmkcfiiaaGreatN00
import Derived.Laws.AppendOwn
import Derived.Laws.Strings
import Derived.Laws.StructEq
import Derived.Laws.Pointers
section
namespace Go.AM
variable {S:St} {g:Gh} {a:Act} {w:World}
theorem Z0 {w w':World} {b:Nat}(h:w'.heap[b]?=w.heap[b]?):w'.heap[b]?=w.heap[b]?:=h
theorem zV {w w':World} {b o:Nat}(h:w'.heap[b]?=w.heap[b]?):w'.cell? ⟨b,o,none⟩=w.cell? ⟨b,o,none⟩∧Q2 w' b=Q2 w b:=⟨Vl h,Zp h⟩
theorem xj {w:World} {b:Nat} {arr:Array Value} {T:TypeId} {f:Nat×Nat}(h:w.heap[b]?=some (.cells arr T f)):Q2 w b=none:=by unfold Q2;rw[h]
theorem heap_alloc(w:World)(o:Obj)(b:Nat):(w.alloc o).heap[b]?=if b=w.heap.size then some o else w.heap[b]?:=by
 show(w.heap.push o)[b]?=_
 rw[Array.getElem?_push]
theorem qq(w:World)(b:Nat)(arr:Array Value)(k:Nat)(h:k≠b):(w.setRow b arr).heap[k]?=w.heap[k]?:=by
 simp only[World.setRow,Array.getElem?_modify]
 rw[if_neg (fun e=>h e.symm)]
theorem size_setRow(w:World)(b:Nat)(arr:Array Value):(w.setRow b arr).heap.size=w.heap.size:=by simp[World.setRow]
theorem SR.ze7 [Gi] {E:Ent}(h:SR E S g a w) {fr':Nat→Nat} {w':World}(k:vq g w ⟨fr',g.K⟩ w' ftt ftt)
  (hroot:∀b t,g.K b=.root t→w'.heap[b]?=w.heap[b]?∧fr' b=g.fr b)
  (hframe:∀b,¬E.may b→w'.heap[b]?=w.heap[b]?∧fr' b=g.fr b)
  (hout:w'.os=w.os∧w'.tape=w.tape∧w'.output=w.output) (hmono:w.heap.size≤w'.heap.size)
  (hfrb:∀b,w'.heap.size≤b→fr' b=0):SR E S ⟨fr',g.K⟩ a w' where
 size:=h.size
 defers:=h.defers
 slots t:=zd.all k _ _ (h.slots t)
 roots b t hk:=by
  obtain⟨cs,hl,h0,arr,T,hb,hle,hc⟩:=h.roots b t hk
  obtain⟨e1,e2⟩:=hroot b t hk
  exact⟨cs,hl,e2.trans h0,arr,T,e1.trans hb,hle,fun j x hj=>let⟨v,hv,h1,r⟩:=hc j x hj;⟨v,hv,h1,zd.all k _ _ r⟩⟩
 ur:=h.ur
 ut:=h.ut
 own b hb:=⟨Nat.lt_of_lt_of_le (h.own b hb).1 hmono,(h.own b hb).2⟩
 frame b hb:=⟨(hframe b hb).1.trans (h.frame b hb).1,(hframe b hb).2.trans (h.frame b hb).2⟩
 ext:=h.ext.trans k.ext
 out:=⟨hout.1.trans h.out.1,hout.2.1.trans h.out.2.1,hout.2.2.trans h.out.2.2⟩
 mono:=Nat.le_trans h.mono hmono
 frb:=hfrb
 pins b t hk ht:=⟨(h.pins b t hk ht).1,fun n hb=>(k.kr b t rfl (h.pins b t hk ht).1).2 n ((h.pins b t hk ht).2 n hb)⟩
theorem SR.kF [Gi] {E:Ent}(h:SR E S g a w) {b:Nat}(hb:¬E.may b):b<w.heap.size:=by
 unfold Ent.may at hb
 have:=h.mono
 omega
theorem SR.extend [Gi] {E:Ent}(h:SR E S g a w) {fr':Nat→Nat} {w':World}(hh:∀b,b<w.heap.size→w'.heap[b]?=w.heap[b]?∧fr' b=g.fr b)
  (hout:w'.os=w.os∧w'.tape=w.tape∧w'.output=w.output) (hmono:w.heap.size≤w'.heap.size)
  (hfrb:∀b,w'.heap.size≤b→fr' b=0):SR E S ⟨fr',g.K⟩ a w':=by
 refine h.ze7 ⟨fun b o ho=>?_,fun b t _ hk=>⟨hk,fun _ hb=>Blk.of_heap (hh b (h.own b (by rw[hk];simp)).1).1 hb⟩,fun b t _ hk=>?_⟩ (fun b t hk=>hh b (h.own b (by rw[hk];simp)).1) (fun b hb=>hh b (h.kF hb)) hout hmono hfrb
 ·have hb:b<w.heap.size:=by
   rcases Nat.lt_or_ge b w.heap.size with h'|h'
   ·exact h'
   ·have:=h.frb b h';omega
  exact⟨by show o<fr' b;rw[(hh b hb).2];exact ho,zV (hh b hb).1⟩
 ·have hb:=(h.own b (by rw[hk];simp)).1
  exact⟨hk,(hh b hb).2,Z0 (hh b hb).1⟩
theorem SR.drew [Gi] {E:Ent}(h:SR E S g a w):SR E S g a {w with drawn:=w.drawn+1}:=
 h.extend (fr':=g.fr) (fun _ _=>⟨rfl,rfl⟩) ⟨rfl,rfl,rfl⟩ (Nat.le_refl _) h.frb
theorem SR.alloc [Gi] {E:Ent}(h:SR E S g a w)(o:Obj):SR E S g a (w.alloc o):=
 h.extend (fr':=g.fr) (fun b hb=>⟨by rw[heap_alloc,if_neg (by omega)],rfl⟩) ⟨rfl,rfl,rfl⟩ (by simp) (fun b hb=>h.frb b (by simp at hb;omega))
theorem SR.modify [Gi] {E:Ent}(h:SR E S g a w) {b:Nat} {arr arr':Array Value} {T:TypeId}(hb:w.heap[b]?=some (.cells arr T (0,0)))(hp:g.K b=.prot)(hm:E.may b)
  (hfr:∀o,o<g.fr b→arr'[o]?=arr[o]?):SR E S g a (w.setRow b arr'):=by
 have hne:∀c t,g.K c=.root t∨g.K c=.tail t→c≠b:=fun c t hk e=>by subst e;rw[hp]at hk;simp at hk
 refine h.ze7 (fr':=g.fr) ⟨fun c o ho=>⟨ho,?_⟩,fun c t _ hk=>⟨hk,fun _ hb'=>Blk.of_heap (qq w b arr' c (hne c t (.inl hk))) hb'⟩,fun c t _ hk=>⟨hk,rfl,Z0 (qq w b arr' c (hne c t (.inr hk)))⟩⟩
  (fun c t hk=>⟨qq w b arr' c (hne c t (.inl hk)),rfl⟩) (fun c hc=>⟨qq w b arr' c (fun e=>hc (e▸hm)),rfl⟩) ⟨rfl,rfl,rfl⟩ (by rw[size_setRow];exact Nat.le_refl _)
  (fun c hc=>h.frb c (by rwa[size_setRow]at hc))
 by_cases e:c=b
 ·subst e
  refine⟨?_,by rw[xj (setRow_heap w c arr arr' T (0,0) hb),xj hb]⟩
  simp only[World.cell?,setRow_heap w c arr arr' T (0,0) hb,hb]
  simpa using hfr o ho
 ·exact zV (qq w b arr' c e)
def ZS {α:Type}(f:Nat→α)(b:Nat)(x:α):Nat→α:=fun c=>if c=b then x else f c
theorem qp {α:Type}(f:Nat→α)(b:Nat)(x:α):ZS f b x b=x:=by simp[ZS]
theorem qF {α:Type}(f:Nat→α)(b:Nat)(x:α) {c:Nat}(h:c≠b):ZS f b x c=f c:=by simp[ZS,h]
theorem SR.zfS [Gi] {E:Ent}(h:SR E S g a w) {b m:Nat}(hp:g.K b=.prot)(hm:E.may b)(hb:b<w.heap.size)(hle:g.fr b≤m):SR E S ⟨ZS g.fr b m,g.K⟩ a w:=by
 have hne:∀c t,g.K c=.root t∨g.K c=.tail t→c≠b:=fun c t hk e=>by subst e;rw[hp]at hk;simp at hk
 refine h.ze7 ⟨fun c o ho=>⟨?_,rfl,rfl⟩,fun c t _ hk=>⟨hk,fun _ hb=>hb⟩,fun c t _ hk=>⟨hk,qF _ _ _ (hne c t (.inr hk)),rfl⟩⟩
  (fun c t hk=>⟨rfl,qF _ _ _ (hne c t (.inl hk))⟩) (fun c hc=>⟨rfl,qF _ _ _ (fun e=>hc (e▸hm))⟩) ⟨rfl,rfl,rfl⟩ (Nat.le_refl _) (fun c hc=>?_)
 ·by_cases e:c=b
  ·subst e;show o<ZS g.fr c m c;rw[qp];omega
  ·show o<ZS g.fr b m c;rw[qF _ _ _ e];exact ho
 ·rw[qF _ _ _ (by omega)];exact h.frb c hc
def Kd.fil(rt tt:Tok→Bool):Kd→Kd
 |.root t=>if rt t then .root t else .prot
 |.tail t=>if tt t then .tail t else .prot
 |.prot=>.prot
theorem Kd.qe {rt tt:Tok→Bool} {t:Tok}:∀{k:Kd},k.fil rt tt=.root t↔k=.root t∧rt t=true
 |.prot=>by simp[Kd.fil]
 |.tail u=>by simp only[Kd.fil];split<;>simp
 |.root u=>by
  simp only[Kd.fil]
  split
  ·rename_i h;constructor
   ·intro e;injection e with e;subst e;exact⟨rfl,h⟩
   ·exact fun e=>e.1
  ·rename_i h;constructor
   ·intro e;cases e
   ·rintro⟨e,h'⟩;injection e with e;subst e;exact absurd h' h
theorem Kd.q8 {rt tt:Tok→Bool} {t:Tok}:∀{k:Kd},k.fil rt tt=.tail t↔k=.tail t∧tt t=true
 |.prot=>by simp[Kd.fil]
 |.root u=>by simp only[Kd.fil];split<;>simp
 |.tail u=>by
  simp only[Kd.fil]
  split
  ·rename_i h;constructor
   ·intro e;injection e with e;subst e;exact⟨rfl,h⟩
   ·exact fun e=>e.1
  ·rename_i h;constructor
   ·intro e;cases e
   ·rintro⟨e,h'⟩;injection e with e;subst e;exact absurd h' h
def Gh.fil(rt tt:Tok→Bool)(g:Gh):Gh:=⟨g.fr,fun b=>(g.K b).fil rt tt⟩
theorem Gh.qe {rt tt:Tok→Bool} {g:Gh} {b:Nat} {t:Tok}:(g.fil rt tt).K b=.root t↔g.K b=.root t∧rt t=true:=Kd.qe
theorem Gh.q8 {rt tt:Tok→Bool} {g:Gh} {b:Nat} {t:Tok}:(g.fil rt tt).K b=.tail t↔g.K b=.tail t∧tt t=true:=Kd.q8
theorem SR.filter [Gi] {E:Ent}(h:SR E S g a w)(rt tt:Tok→Bool)(hpin:∀t,t∈S.pin→rt t=true:=by exact fun _ _=>rfl):SR E (S.fil rt tt) (g.fil rt tt) a w:=by
 have k:vq g w (g.fil rt tt) w rt tt:=⟨Ext.refl _ _,fun b t ht hk=>⟨Gh.qe.2 ⟨hk,ht⟩,fun _ hb=>hb⟩,fun b t ht hk=>⟨Gh.q8.2 ⟨hk,ht⟩,rfl,rfl⟩⟩
 refine⟨h.size,h.defers,fun t=>?_,fun b t hk=>?_,fun b b' t hk hk'=>h.ur b b' t (Gh.qe.1 hk).1 (Gh.qe.1 hk').1,fun b b' t hk hk'=>h.ut b b' t (Gh.q8.1 hk).1 (Gh.q8.1 hk').1,
  fun b hb=>h.own b ?_,h.frame,h.ext,h.out,h.mono,h.frb,fun b t hk ht=>⟨Gh.qe.2 ⟨(h.pins b t hk ht).1,hpin t ht⟩,(h.pins b t hk ht).2⟩⟩
 ·rw[St.zj7];exact zd.upd k _ _ (h.slots t)
 ·obtain⟨cs,hl,h0,arr,T,hb,hle,hc⟩:=h.roots b t (Gh.qe.1 hk).1
  refine⟨cs.map (AV.upd (AM.fil rt tt)),?_,h0,arr,T,hb,by simpa using hle,fun j x hj=>?_⟩
  ·simp only[St.fil]
   rw[V4 (List.map (AV.upd (AM.fil rt tt))),hl]
   rfl
  ·simp only[List.getElem?_map,Option.map_eq_some_iff]at hj
   obtain⟨y,hy,rfl⟩:=hj
   obtain⟨v,hv,h1,r⟩:=hc j y hy
   exact⟨v,hv,h1,zd.upd k _ _ r⟩
 ·intro e;apply hb;show(g.K b).fil rt tt=.prot;rw[e];rfl
theorem SR.put [Gi] {E:Ent}(h:SR E S g a w) {d:Nat} {x:AV} {v:Value}(r:zd g w x v)(hd:d<S.n):SR E (S.set d x) g (a.put (some d) v) w:=by
 refine⟨?_,h.defers,fun t=>?_,?_,h.ur,h.ut,h.own,h.frame,h.ext,h.out,h.mono,h.frb,fun b t hk ht=>h.pins b t hk (by rw[←St.zfW];exact ht)⟩
 ·rw[St.zfP];simp[Act.put,h.size]
 ·rw[St.zaG]
  split
  ·rename_i e;subst e
   have:d<a.tmps.size:=by rw[h.size];exact hd
   simpa[Act.put,this]using r
  ·rename_i e
   have:(a.put (some d) v).tmps.getD t undef=a.tmps.getD t undef:=by
    simp only[Act.put,Array.getD_eq_getD_getElem?,Array.getElem?_setIfInBounds_ne e]
   rw[this];exact h.slots t
 ·intro b t hk;rw[St.zid];exact h.roots b t hk
theorem SR.U5 [Gi] {E:Ent}(h:SR E S g a w) {b:Nat} {t:Tok} {cs:List AV} {arr:Array Value} {T:TypeId}(hp:g.K b=.prot)(hm:E.may b)(hno:∀c,g.K c≠ .root t)
  (hb:w.heap[b]?=some (.cells arr T (0,0))) (h0:g.fr b=0) (hle:cs.length≤arr.size) (hc:∀(j:Nat) (x:AV),cs[j]?=some x→∃v,arr[j]?=some v∧v.oneCell'=true∧zd g w x v):
  SR E {S with rs:=vr S.rs t cs} ⟨g.fr,ZS g.K b (.root t)⟩ a w:=by
 have hne:∀c,g.K c≠ .prot→c≠b:=fun c hk e=>hk (e▸hp)
 have k:vq g w ⟨g.fr,ZS g.K b (.root t)⟩ w ftt ftt:=⟨Ext.refl _ _,fun c u _ hk=>⟨by show ZS g.K b _ c=_;rw[qF _ _ _ (hne c (by rw[hk];simp))];exact hk,fun _ hb=>hb⟩,
  fun c u _ hk=>⟨by show ZS g.K b _ c=_;rw[qF _ _ _ (hne c (by rw[hk];simp))];exact hk,rfl,rfl⟩⟩
 have hroot:∀c u,ZS g.K b (.root t) c=.root u→(c=b∧u=t)∨(c≠b∧g.K c=.root u∧u≠t):=fun c u hk=>by
  by_cases e:c=b
  ·subst e;rw[qp]at hk;injection hk with hk;exact .inl ⟨rfl,hk.symm⟩
  ·rw[qF _ _ _ e]at hk;exact .inr ⟨e,hk,fun e'=>hno c (e'▸hk)⟩
 refine⟨h.size,h.defers,fun u=>zd.all k _ _ (h.slots u),fun c u hk=>?_,fun c c' u hk hk'=>?_,fun c c' u hk hk'=>?_,fun c hc'=>?_,h.frame,h.ext,h.out,h.mono,h.frb,fun c u hk hu=>?_⟩
 ·rcases hroot c u hk with ⟨rfl,rfl⟩|⟨hcb,hk,hut⟩
  ·refine⟨cs,by simp only[];rw[QY,if_pos rfl],h0,arr,T,hb,hle,fun j x hj=>?_⟩
   obtain⟨v,hv,h1,r⟩:=hc j x hj
   exact⟨v,hv,h1,zd.all k _ _ r⟩
  ·obtain⟨ds,hl,h0,arr,T,hb,hle,hc⟩:=h.roots c u hk
   refine⟨ds,by simp only[];rw[QY,if_neg (fun e=>hut e.symm)];exact hl,h0,arr,T,hb,hle,fun j x hj=>?_⟩
   obtain⟨v,hv,h1,r⟩:=hc j x hj
   exact⟨v,hv,h1,zd.all k _ _ r⟩
 ·rcases hroot c u hk with ⟨rfl,rfl⟩|⟨hcb,hk,hut⟩<;>rcases hroot c' u hk' with ⟨rfl,e⟩|⟨hcb',hk',hut'⟩
  ·rfl
  ·exact absurd rfl hut'
  ·exact absurd e hut
  ·exact h.ur c c' u hk hk'
 ·have f:∀c,ZS g.K b (.root t) c=.tail u→g.K c=.tail u:=fun c hk=>by
   by_cases e:c=b
   ·subst e;rw[qp]at hk;cases hk
   ·rwa[qF _ _ _ e]at hk
  exact h.ut c c' u (f c hk) (f c' hk')
 ·by_cases e:c=b
  ·subst e;exact⟨(Array.getElem?_eq_some_iff.1 hb).1,hm⟩
  ·have:ZS g.K b (.root t) c≠ .prot:=hc'
   rw[qF _ _ _ e]at this;exact h.own c this
 ·have hh:=h.pins c u hk hu
  refine⟨?_,hh.2⟩
  show ZS g.K b _ c=_
  rw[qF _ _ _ (hne c (by rw[hh.1];simp))];exact hh.1
theorem SR.xC [Gi] {E:Ent}(h:SR E S g a w) {b:Nat} {t:Tok}(hp:g.K b=.prot)(hm:E.may b)(hb:b<w.heap.size)(hno:∀c,g.K c≠ .tail t):
  SR E S ⟨g.fr,ZS g.K b (.tail t)⟩ a w:=by
 have hne:∀c,g.K c≠ .prot→c≠b:=fun c hk e=>hk (e▸hp)
 have k:vq g w ⟨g.fr,ZS g.K b (.tail t)⟩ w ftt ftt:=⟨Ext.refl _ _,fun c u _ hk=>⟨by show ZS g.K b _ c=_;rw[qF _ _ _ (hne c (by rw[hk];simp))];exact hk,fun _ hb=>hb⟩,
  fun c u _ hk=>⟨by show ZS g.K b _ c=_;rw[qF _ _ _ (hne c (by rw[hk];simp))];exact hk,rfl,rfl⟩⟩
 have hroot:∀c u,ZS g.K b (.tail t) c=.root u→g.K c=.root u:=fun c u hk=>by
  by_cases e:c=b
  ·subst e;rw[qp]at hk;cases hk
  ·rwa[qF _ _ _ e]at hk
 have htail:∀c u,ZS g.K b (.tail t) c=.tail u→(c=b∧u=t)∨(c≠b∧g.K c=.tail u∧u≠t):=fun c u hk=>by
  by_cases e:c=b
  ·subst e;rw[qp]at hk;injection hk with hk;exact .inl ⟨rfl,hk.symm⟩
  ·rw[qF _ _ _ e]at hk;exact .inr ⟨e,hk,fun e'=>hno c (e'▸hk)⟩
 refine⟨h.size,h.defers,fun u=>zd.all k _ _ (h.slots u),fun c u hk=>?_,fun c c' u hk hk'=>h.ur c c' u (hroot c u hk) (hroot c' u hk'),fun c c' u hk hk'=>?_,fun c hc'=>?_,h.frame,h.ext,h.out,h.mono,h.frb,fun c u hk hu=>?_⟩
 ·obtain⟨ds,hl,h0,arr,T,hb,hle,hc⟩:=h.roots c u (hroot c u hk)
  refine⟨ds,hl,h0,arr,T,hb,hle,fun j x hj=>?_⟩
  obtain⟨v,hv,h1,r⟩:=hc j x hj
  exact⟨v,hv,h1,zd.all k _ _ r⟩
 ·rcases htail c u hk with ⟨rfl,rfl⟩|⟨hcb,hk,hut⟩<;>rcases htail c' u hk' with ⟨rfl,e⟩|⟨hcb',hk',hut'⟩
  ·rfl
  ·exact absurd rfl hut'
  ·exact absurd e hut
  ·exact h.ut c c' u hk hk'
 ·by_cases e:c=b
  ·subst e;exact⟨hb,hm⟩
  ·have:ZS g.K b (.tail t) c≠ .prot:=hc'
   rw[qF _ _ _ e]at this;exact h.own c this
 ·have hh:=h.pins c u hk hu
  refine⟨?_,hh.2⟩
  show ZS g.K b _ c=_
  rw[qF _ _ _ (hne c (by rw[hh.1];simp))];exact hh.1
theorem SR.zmz [Gi] {E:Ent}(h:SR E S g a w) {b:Nat} {t:Tok} {cs':List AV} {arr arr':Array Value} {T:TypeId}(hk:g.K b=.root t)
  (hb:w.heap[b]?=some (.cells arr T (0,0))) (hsz:arr.size=arr'.size) (hle:cs'.length≤arr'.size) (hc:∀(j:Nat) (x:AV),cs'[j]?=some x→∃v,arr'[j]?=some v∧v.oneCell'=true∧zd g w x v):
  SR E {S with rs:=vr S.rs t cs'} g a (w.setRow b arr'):=by
 have hm:=(h.own b (by rw[hk];simp)).2
 have h0:g.fr b=0:=by obtain⟨_,_,h0,_⟩:=h.roots b t hk;exact h0
 have hnt:∀c u,g.K c=.tail u→c≠b:=fun c u hk' e=>by subst e;rw[hk]at hk';cases hk'
 have k:vq g w g (w.setRow b arr') ftt ftt:=⟨fun c o ho=>⟨ho,zV (qq w b arr' c (fun e=>by subst e;omega))⟩,fun c u _ hku=>⟨hku,fun n hn=>by
  by_cases e:c=b
  ·subst e
   cases n with
   |le n=>
    obtain⟨arr2,T2,h2,h3⟩:=hn
    rw[hb]at h2
    injection h2 with h2;injection h2 with h4 h5;subst h4
    exact⟨arr',T,setRow_heap w c arr arr' T (0,0) hb,by omega⟩
   |eq T2 m=>
    obtain⟨arr2,h2,h3⟩:=hn
    rw[hb]at h2
    injection h2 with h2;injection h2 with h4 h5;subst h4;subst h5
    exact⟨arr',setRow_heap w c arr arr' T (0,0) hb,by omega⟩
  ·exact Blk.of_heap (qq w b arr' c e) hn⟩,
  fun c u _ hk'=>⟨hk',rfl,Z0 (qq w b arr' c (hnt c u hk'))⟩⟩
 refine⟨h.size,h.defers,fun u=>zd.all k _ _ (h.slots u),fun c u hku=>?_,h.ur,h.ut,fun c hc'=>?_,fun c hc'=>?_,h.ext.trans k.ext,h.out,by rw[size_setRow];exact h.mono,fun c hc'=>h.frb c (by rwa[size_setRow]at hc'),fun c u hk hu=>⟨(h.pins c u hk hu).1,fun n hn=>(k.kr c u rfl (h.pins c u hk hu).1).2 n ((h.pins c u hk hu).2 n hn)⟩⟩
 ·by_cases e:c=b
  ·subst e
   have:u=t:=by rw[hk]at hku;injection hku with e;exact e.symm
   subst this
   refine⟨cs',by simp only[];rw[QY,if_pos rfl],h0,arr',T,setRow_heap w c arr arr' T (0,0) hb,hle,fun j x hj=>?_⟩
   obtain⟨v,hv,h1,r⟩:=hc j x hj
   exact⟨v,hv,h1,zd.all k _ _ r⟩
  ·have hut:t≠u:=fun e'=>by subst e';exact e (h.ur c b _ hku hk)
   obtain⟨ds,hl,h0,arr1,T,hb,hle,hc⟩:=h.roots c u hku
   refine⟨ds,by simp only[];rw[QY,if_neg hut];exact hl,h0,arr1,T,(qq w b arr' c e).trans hb,hle,fun j x hj=>?_⟩
   obtain⟨v,hv,h1,r⟩:=hc j x hj
   exact⟨v,hv,h1,zd.all k _ _ r⟩
 ·rw[size_setRow];exact h.own c hc'
 ·exact⟨(qq w b arr' c (fun e=>hc' (e▸hm))).trans (h.frame c hc').1,(h.frame c hc').2⟩
theorem SR.znZ [Gi] {E:Ent}(h:SR E S g a w) {b:Nat} {t:Tok} {cs':List AV} {arr:Array Value} {T:TypeId}(hk:g.K b=.root t)
  (hb:w.heap[b]?=some (.cells arr T (0,0))) (hle:cs'.length≤arr.size) (hc:∀(j:Nat) (x:AV),cs'[j]?=some x→∃v,arr[j]?=some v∧v.oneCell'=true∧zd g w x v):
  SR E {S with rs:=vr S.rs t cs'} g a w:=by
 refine⟨h.size,h.defers,fun u=>h.slots u,fun c u hku=>?_,h.ur,h.ut,h.own,h.frame,h.ext,h.out,h.mono,h.frb,h.pins⟩
 by_cases e:c=b
 ·subst e
  have:u=t:=by rw[hk]at hku;injection hku with e;exact e.symm
  subst this
  exact⟨cs',by simp only[];rw[QY,if_pos rfl],(by obtain⟨_,_,h0,_⟩:=h.roots c u hk;exact h0),arr,T,hb,hle,hc⟩
 ·have hut:t≠u:=fun e'=>by subst e';exact e (h.ur c b _ hku hk)
  obtain⟨ds,hl,rest⟩:=h.roots c u hku
  exact⟨ds,by simp only[];rw[QY,if_neg hut];exact hl,rest⟩
def LeA(x y:AV):Prop:=∀g w v,zd g w x v→zd g w y v
theorem LeA.refl(x:AV):LeA x x:=fun _ _ _ h=>h
theorem LeA.zZ(x:AV):LeA x .zZ:=fun _ _ _ _=>by simp only[zd]
theorem LeA.dem(t:Tok)(z:Nat)(es:List PV):LeA (.os t z es) (.p (.sl z es)):=fun _ _ _ h=>by simp only[zd]at h⊢;exact h.1
theorem LeA.nil(z:Nat):LeA (.p (.opq (.slice none 0 0))) (.p (.sl z [])):=fun _ _ _ h=>by
 simp only[zd,zk]at h⊢;exact .inl ⟨trivial,none,0,h⟩
theorem LeA.UU(t:Tok)(z:Nat):LeA (.p (.opq (.slice none 0 0))) (.os t z []):=fun _ _ _ h=>by
 simp only[zd,zk]at h⊢;exact⟨.inl ⟨trivial,none,0,h⟩,.inl ⟨none,0,h⟩⟩
theorem SR.weaken [Gi] {E:Ent}(h:SR E S g a w) {S':St}(hn:S'.n=S.n)(hs:∀t,LeA (S.get t) (S'.get t))(hr:S'.rs=S.rs)(hp:S'.pin=S.pin):SR E S' g a w:=
 ⟨by rw[hn];exact h.size,h.defers,fun t=>hs t _ _ _ (h.slots t),fun b t hk=>by rw[hr];exact h.roots b t hk,h.ur,h.ut,h.own,h.frame,h.ext,h.out,h.mono,h.frb,fun b t hk ht=>h.pins b t hk (by rw[←hp];exact ht)⟩
end Go.AM
end
section
namespace Go.AM
structure Ty where
 desc:TypeDesc
 size:Nat
 bytes:Nat
 zero:Option (List PV)
def yz:Value→PV
 |.int k n=>.int k n
 |.bool b=>.bool b
 |.string s=>.str s.data.toList
 |v=>.opq v
theorem zk.yz {fr:Nat→Nat} {w:World}(v:Value):zk fr w (yz v) v:=by
 cases v<;>simp[AM.yz,zk]
def ty(P:Program)(t:TypeId):Option Ty:=
 match P.info? t,P.underlying t with
 |some i,some d=>some ⟨d,i.size,i.bytes,i.zero.map fun v=>v.cells.toList.map yz⟩
 |_,_=>none
theorem Zd {P:Program} {t:TypeId} {T:Ty}(h:ty P t=some T):
  ∃i,P.info? t=some i∧P.underlying t=some T.desc∧i.size=T.size∧i.bytes=T.bytes∧i.zero.map (fun v=>v.cells.toList.map yz)=T.zero:=by
 unfold ty at h
 split at h
 ·rename_i i d h1 h2;simp at h;subst h;exact⟨i,h1,h2,rfl,rfl,rfl⟩
 ·cases h
section
variable {P:Program} {t:TypeId} {T:Ty} (w:World)
theorem zw(h:ty P t=some T):(underlying t).run P w=.ok T.desc w:=by
 obtain⟨i,_,h2,_⟩:=Zd h;exact run_underlying h2 w
theorem qE(h:ty P t=some T):(sizeOf t).run P w=.ok T.size w:=by
 obtain⟨i,h1,_,h3,_⟩:=Zd h;simp[sizeOf,typeInfo,h1,h3]
theorem zfy(h:ty P t=some T):∃i,(∀w,(typeInfo t).run P w=.ok i w)∧i.bytes=T.bytes:=by
 obtain⟨i,h1,_,h3,h4,_⟩:=Zd h;exact⟨i,fun w=>by simp[typeInfo,h1],h4⟩
theorem jV {cs:List PV}(h:ty P t=some T)(hz:T.zero=some cs):∃v,(∀w,(zeroValue t).run P w=.ok v w)∧v.cells.toList.map yz=cs:=by
 obtain⟨i,h1,_,h3,h4,h5⟩:=Zd h
 rw[hz]at h5
 simp only[Option.map_eq_some_iff]at h5
 obtain⟨v,hv,hc⟩:=h5
 exact⟨v,fun w=>by simp[zeroValue,typeInfo,h1,hv],hc⟩
end
def qv:TypeDesc→Bool
 |.struct _=>true
 |.array _ _=>true
 |_=>false
theorem wy {P:Program} {t:TypeId} {T:Ty}(w:World)(h:ty P t=some T):(isAgg t).run P w=.ok (qv T.desc) w:=by
 unfold isAgg
 rw[Sem.run_bind,zw w h]
 cases T.desc<;>rfl
def St.ev(S:St):Operand→AV
 |.tmp t=>S.get t
 |.const v=>.p (yz v)
 |.func f=>.p (.opq (.func (.func f) #[] #[]))
 |.global _=>.zZ
theorem SR.ev [Gi] {E:Ent} {S:St} {g:Gh} {a:Act} {w:World}(h:SR E S g a w)(x:Operand):zd g w (S.ev x) (a.eval x):=by
 cases x with
 |tmp t=>exact h.slots t
 |const v=>simp only[St.ev,zd,Act.eval];exact zk.yz v
 |func f=>simp only[St.ev,zd,zk,Act.eval]
 |global g=>simp only[St.ev,zd]
def unG:AV→Prop×AV
 |.gd c x=>(c=true,x)
 |x=>(True,x)
theorem zA {g:Gh} {w:World} {x:AV} {v:Value}(h:(unG x).1)(r:zd g w x v):zd g w (unG x).2 v:=by
 cases x<;>simp only[unG]at h⊢ <;>first|exact r|(simp only[zd]at r;exact r.1 h)
abbrev PR:=Prop×AV
def bad:PR:=(False,.zZ)
def vE(op:BinOp)(k:IntKind)(a b:Int):Prop×PV:=
 match op with
 |.add=>(True,.int k (k.wrap (a+b)))
 |.sub=>(True,.int k (k.wrap (a-b)))
 |.mul=>(True,.int k (k.wrap (a*b)))
 |.quo=>(b≠0,.int k (k.wrap (a.tdiv b)))
 |.rem=>(b≠0,.int k (a.tmod b))
 |.and=>(True,.int k (k.wrap (BitVec.ofInt k.bits a&&& BitVec.ofInt k.bits b).toNat))
 |.or=>(True,.int k (k.wrap (BitVec.ofInt k.bits a |||BitVec.ofInt k.bits b).toNat))
 |.xor=>(True,.int k (k.wrap (BitVec.ofInt k.bits a^^^BitVec.ofInt k.bits b).toNat))
 |.andNot=>(True,.int k (k.wrap (BitVec.ofInt k.bits a&&& ~~~ BitVec.ofInt k.bits b).toNat))
 |.eql=>(True,.bool (decide (a=b)))
 |.neq=>(True,.bool (!decide (a=b)))
 |.lss=>(True,.bool (decide (a<b)))
 |.leq=>(True,.bool (decide (a≤b)))
 |.gtr=>(True,.bool (decide (b<a)))
 |.geq=>(True,.bool (decide (b≤a)))
 |_=>(False,.bool false)
def Uj(op:BinOp)(a b:List UInt8):Prop×PV:=
 match op with
 |.add=>(((a.length+b.length:Nat):Int)≤9223372036854775807,.str (a++b))
 |.eql=>(True,.bool (decide (a=b)))
 |.neq=>(True,.bool (!decide (a=b)))
 |.lss=>(True,.bool (Op.bytesLess a b))
 |.leq=>(True,.bool (Op.bytesLess a b || decide (a=b)))
 |.gtr=>(True,.bool !(Op.bytesLess a b || decide (a=b)))
 |.geq=>(True,.bool !(Op.bytesLess a b))
 |_=>(False,.bool false)
def Ub:AV→Bool
 |.lp _ _=>true
 |.ip _ _ _=>true
 |.p (.pt _ _)=>true
 |_=>false
def x0:AV→Bool
 |.p (.opq (.pointer none))=>true
 |_=>false
def ptrEq(x y:AV):Option Bool:=
 if x0 x then(if x0 y then some true else if Ub y then some false else none)
 else if Ub x&&x0 y then some false else none
def zbq:TypeDesc→Bool
 |.pointer _=>true
 |_=>false
def K3:TypeDesc→Bool
 |.bool=>true
 |_=>false
def zcU(op:BinOp)(k:IntKind)(a:Int)(k':IntKind)(b:Int):PR:=
 match op with
 |.shl=>(0≤b,.p (.int k (k.wrap (a*2^(min b.toNat k.bits)))))
 |.shr=>(0≤b,.p (.int k (a.fdiv (2^(min b.toNat k.bits)))))
 |op=>if k=k' then((vE op k a b).1,.p (vE op k a b).2)else bad
def zb4(P:Program)(op:BinOp)(t:TypeId)(a b:Bool):PR:=
 match ty P t with
 |some T=>if K3 T.desc then
   (match op with
   |.eql=>(True,.p (.bool (a==b)))
   |.neq=>(True,.p (.bool (a !=b)))
   |_=>bad)else bad
 |none=>bad
def zbc(op:BinOp)(c:Option Bool):PR:=
 match c,op with
 |some c,.eql=>(True,.p (.bool c))
 |some c,.neq=>(True,.p (.bool (!c)))
 |_,_=>bad
def zb8(P:Program)(op:BinOp)(t:TypeId)(x y:AV):PR:=
 match ty P t with
 |some T=>if zbq T.desc then zbc op (ptrEq x y)else bad
 |none=>bad
def zhn(P:Program)(op:BinOp)(t:TypeId)(x y:AV):PR:=
 match x,y with
 |.p (.int k a),.p (.int k' b)=>zcU op k a k' b
 |.p (.str a),.p (.str b)=>((Uj op a b).1,.p (Uj op a b).2)
 |.p (.bool a),.p (.bool b)=>zb4 P op t a b
 |x,y=>zb8 P op t x y
theorem zaA {P : Program} {fr : Nat → Nat} {w : World} (op : BinOp) (t : TypeId) (k : IntKind) (a b : Int) (h1 : op ≠ .shl) (h2 : op ≠ .shr) (h : (vE op k a b).1) :
    ∃ r, (binOp op t (.int k a) (.int k b)).run P w = .ok r w ∧ zk fr w (vE op k a b).2 r := by
  cases op <;> simp only [vE] at h ⊢ <;> first
    | exact absurd rfl h1
    | exact absurd rfl h2
    | exact h.elim
    | (refine ⟨_, ?_, by simp only [zk]; rfl⟩
       simp [binOp, Op.intArith, Op.intDiv, Op.intBits, Op.intCmp, h]; done)
    | (refine ⟨_, ?_, by simp only [zk]; rfl⟩
       simp [binOp, Op.intCmp]
       by_cases e : a = b <;> simp [e])
theorem zbH {P : Program} {fr : Nat → Nat} {w : World} (op : BinOp) (t : TypeId) (a b : List UInt8) (h : (Uj op a b).1) :
    ∃ r, (binOp op t (.string ⟨a.toArray⟩) (.string ⟨b.toArray⟩)).run P w = .ok r w ∧ zk fr w (Uj op a b).2 r := by
  have hm : IntKind.i64.max = 9223372036854775807 := by decide
  have hsz : ∀ l : List UInt8, (⟨l.toArray⟩ : ByteArray).size = l.length := fun l => by simp [ByteArray.size]
  have hap : (⟨a.toArray⟩ : ByteArray) ++ ⟨b.toArray⟩ = ⟨(a ++ b).toArray⟩ := by
    apply ByteArray.ext; simp
  have hbeq : (a == b) = decide (a = b) := by by_cases e : a = b <;> simp [e]
  cases op <;> simp only [Uj] at h ⊢ <;> first
    | exact h.elim
    | (refine ⟨_, ?_, by simp only [zk]; rfl⟩
       simp [binOp, Op.stringOp, hbeq]; done)
    | (refine ⟨_, ?_, by simp only [zk]; rfl⟩
       simp only [binOp, Op.stringOp, hsz, hm]
       rw [if_neg (by omega), hap]; rfl)
theorem j6 {P:Program} {op:BinOp} {t:TypeId} {xo yo:Operand} {u v:Value} {w:World}(h1:u≠ .nilIface)(h2:∀cs,u≠ .agg cs):
  (eqGuard op t xo yo u v).run P w=.ok () w:=by
 cases op<;>first
  |rfl
  |(cases u<;>first|exact absurd rfl h1|exact absurd rfl (h2 _)|(cases v<;>rfl))
theorem K5 {g:Gh} {w:World} {x:AV} {v:Value}(h:Ub x=true)(r:zd g w x v):∃a,v=.pointer (some a):=by
 cases x with
 |lp t o=>simp only[zd]at r;obtain⟨b,_,e⟩:=r;exact⟨_,e⟩
 |ip z e o=>simp only[zd]at r;obtain⟨b,_,e,_⟩:=r;exact⟨_,e⟩
 |p x=>
  cases x with
  |pt z e=>simp only[zd,zk]at r;obtain⟨b,_,e,_⟩:=r;exact⟨_,e⟩
  |_=>cases h
 |_=>cases h
theorem zbD {g:Gh} {w:World} {x:AV} {v:Value}(h:x0 x=true)(r:zd g w x v):v=.pointer none:=by
 unfold x0 at h
 split at h
 ·simpa only[zd,zk]using r
 ·cases h
section
variable {P:Program} {t:TypeId} (w:World)
theorem KG(h:P.underlying t=some .bool)(a b:Bool):
  (binOp .eql t (.bool a) (.bool b)).run P w=.ok (.bool (a==b)) w∧(binOp .neq t (.bool a) (.bool b)).run P w=.ok (.bool (a !=b)) w:=by
 have e:(Op.equal t (.bool a) (.bool b)).run P w=.ok (a==b) w:=run_equalIn_bool' w 9999 t a b h
 have e1:binOp .eql t (.bool a) (.bool b)=(do let c←Op.equal t (.bool a) (.bool b);pure (.bool c)):=rfl
 have e2:binOp .neq t (.bool a) (.bool b)=(do let c←Op.equal t (.bool a) (.bool b);pure (.bool (!c))):=rfl
 rw[e1,e2,Sem.run_bind,Sem.run_bind,e]
 exact⟨rfl,rfl⟩
theorem WW {el:TypeId}(h:P.underlying t=some (.pointer el))(x y:Option Addr)(hn:x=none∨y=none):
  (binOp .eql t (.pointer x) (.pointer y)).run P w=.ok (.bool (x.isNone&&y.isNone)) w∧(binOp .neq t (.pointer x) (.pointer y)).run P w=.ok (.bool (!(x.isNone&&y.isNone))) w:=by
 have e0:∀d,(Op.equalIn (d+1) t (.pointer x) (.pointer y)).run P w=.ok (x.isNone&&y.isNone) w:=by
  intro d
  cases x with
  |none=>cases y<;>simp[Op.equalIn,run_underlying h]
  |some a=>
   cases y with
   |none=>simp[Op.equalIn,run_underlying h]
   |some b=>simp at hn
 have e:(Op.equal t (.pointer x) (.pointer y)).run P w=.ok (x.isNone&&y.isNone) w:=e0 9999
 have e1:binOp .eql t (.pointer x) (.pointer y)=(do let c←Op.equal t (.pointer x) (.pointer y);pure (.bool c)):=by cases x<;>cases y<;>rfl
 have e2:binOp .neq t (.pointer x) (.pointer y)=(do let c←Op.equal t (.pointer x) (.pointer y);pure (.bool (!c))):=by cases x<;>cases y<;>rfl
 rw[e1,e2,Sem.run_bind,Sem.run_bind,e]
 exact⟨rfl,rfl⟩
end
theorem zc6 {P:Program} {g:Gh} {w:World}(op:BinOp)(t:TypeId)(k k':IntKind)(a b:Int)(h:(zcU op k a k' b).1):
  ∃r,(binOp op t (.int k a) (.int k' b)).run P w=.ok r w∧zd g w (zcU op k a k' b).2 r:=by
 unfold zcU at h⊢
 split at h
 ·refine⟨_,?_,by simp only[zd,zk];rfl⟩
  have hb:¬b<0:=by simp only[]at h;omega
  simp[binOp,Op.shift,hb]
 ·refine⟨_,?_,by simp only[zd,zk];rfl⟩
  have hb:¬b<0:=by simp only[]at h;omega
  simp[binOp,Op.shift,hb]
 ·rename_i h1 h2
  split at h
  ·rename_i hk
   subst hk
   obtain⟨r,hr,hR⟩:=zaA (fr:=g.fr) (w:=w) (P:=P) op t k a b h1 h2 h
   refine⟨r,hr,?_⟩
   simp only[if_true,zd]
   exact hR
  ·exact h.elim
theorem zdl {P:Program} {g:Gh} {w:World}(op:BinOp)(t:TypeId)(a b:Bool)(h:(zb4 P op t a b).1):
  ∃r,(binOp op t (.bool a) (.bool b)).run P w=.ok r w∧zd g w (zb4 P op t a b).2 r:=by
 unfold zb4 at h⊢
 cases hT:ty P t with
 |none=>simp only[hT]at h;exact h.elim
 |some T=>
  simp only[hT]at h⊢
  by_cases hd:K3 T.desc=true
  ·simp only[hd,if_true]at h⊢
   have hdd:T.desc=.bool:=by cases hq:T.desc<;>simp[hq,K3]at hd;rfl
   obtain⟨i,_,hu,_⟩:=Zd hT
   rw[hdd]at hu
   cases op<;>first
    |exact h.elim
    |exact⟨_,(KG w hu a b).1,by simp only[zd,zk]⟩
    |exact⟨_,(KG w hu a b).2,by simp only[zd,zk]⟩
  ·simp only[hd]at h;exact h.elim
theorem zdM {P:Program} {g:Gh} {w:World} {t el:TypeId} {x y:AV} {u v:Value}(hu:P.underlying t=some (.pointer el))(hx:zd g w x u)(hy:zd g w y v)
  {c:Bool} (hc:ptrEq x y=some c):(u≠ .nilIface∧∀cs,u≠ .agg cs)∧(binOp .eql t u v).run P w=.ok (.bool c) w∧(binOp .neq t u v).run P w=.ok (.bool !c) w:=by
 unfold ptrEq at hc
 split at hc
 ·rename_i hxn
  have:=zbD hxn hx;subst this
  split at hc
  ·rename_i hyn
   have:=zbD hyn hy;subst this
   simp at hc;subst hc
   exact⟨⟨by simp,by simp⟩,WW w hu none none (.inl rfl)⟩
  ·split at hc
   ·rename_i hya
    obtain⟨a,rfl⟩:=K5 hya hy
    simp at hc;subst hc
    exact⟨⟨by simp,by simp⟩,WW w hu none (some a) (.inl rfl)⟩
   ·cases hc
 ·split at hc
  ·rename_i hxy
   simp only[Bool.and_eq_true]at hxy
   obtain⟨a,rfl⟩:=K5 hxy.1 hx
   have:=zbD hxy.2 hy;subst this
   simp at hc;subst hc
   exact⟨⟨by simp,by simp⟩,WW w hu (some a) none (.inr rfl)⟩
  ·cases hc
theorem zcm {P:Program} {g:Gh} {w:World} {op:BinOp} {t:TypeId} {x y:AV} {u v:Value}(h:(zb8 P op t x y).1)(hx:zd g w x u)(hy:zd g w y v):
  (u≠ .nilIface∧∀cs,u≠ .agg cs)∧∃r,(binOp op t u v).run P w=.ok r w∧zd g w (zb8 P op t x y).2 r:=by
 unfold zb8 at h⊢
 cases hT:ty P t with
 |none=>simp only[hT]at h;exact h.elim
 |some T=>
  simp only[hT]at h⊢
  by_cases hd:zbq T.desc=true
  ·simp only[hd,if_true]at h⊢
   have hdd:∃e,T.desc=.pointer e:=by cases hq:T.desc<;>simp[hq,zbq]at hd;exact⟨_,rfl⟩
   obtain⟨e,hdd⟩:=hdd
   obtain⟨i,_,hu,_⟩:=Zd hT
   rw[hdd]at hu
   cases hc:ptrEq x y with
   |none=>simp only[hc,zbc]at h;cases op<;>exact h.elim
   |some c=>
    simp only[hc]at h⊢
    obtain⟨h1,h2,h3⟩:=zdM (P:=P) hu hx hy hc
    refine⟨h1,?_⟩
    cases op<;>simp only[zbc]at h⊢ <;>first
     |exact h.elim
     |exact⟨_,h2,by simp only[zd,zk]⟩
     |exact⟨_,h3,by simp only[zd,zk]⟩
  ·simp only[hd]at h;exact h.elim
theorem zd2 {P:Program} {op:BinOp} {t:TypeId} {x y:AV} {g:Gh} {w:World} {u v:Value}(xo yo:Operand)(h:(zhn P op t x y).1)
  (hx:zd g w x u) (hy:zd g w y v):
  ∃r,(do eqGuard op t xo yo u v;binOp op t u v:Sem Value).run P w=.ok r w∧zd g w (zhn P op t x y).2 r:=by
 suffices H:(u≠ .nilIface∧∀cs,u≠ .agg cs)∧∃r,(binOp op t u v).run P w=.ok r w∧zd g w (zhn P op t x y).2 r by
  obtain⟨⟨h1,h2⟩,r,hr,hR⟩:=H
  exact⟨r,by rw[Sem.run_bind,j6 h1 h2];exact hr,hR⟩
 unfold zhn at h⊢
 split at h
 ·simp only[zd,zk]at hx hy
  subst hx;subst hy
  exact⟨⟨by simp,by simp⟩,zc6 op t _ _ _ _ h⟩
 ·simp only[zd,zk]at hx hy
  subst hx;subst hy
  refine⟨⟨by simp,by simp⟩,?_⟩
  obtain⟨r,hr,hR⟩:=zbH (fr:=g.fr) (w:=w) (P:=P) op t _ _ h
  exact⟨r,hr,by simp only[zd];exact hR⟩
 ·simp only[zd,zk]at hx hy
  subst hx;subst hy
  exact⟨⟨by simp,by simp⟩,zdl op t _ _ h⟩
 ·exact zcm h hx hy
end Go.AM
end
