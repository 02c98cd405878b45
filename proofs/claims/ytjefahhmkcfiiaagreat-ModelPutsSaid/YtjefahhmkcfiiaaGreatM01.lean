/- A part of the proof of this seat's statements, by an abstract machine: what each operation does to values, and what the law's functions compute. Conditions: as each law says. -/
import Derived.Test.YtjefahhmkcfiiaaGreatM00
import Derived.Laws.AppendOwn
import Derived.Laws.Strings
import Derived.Laws.StructEq
import Derived.Laws.Pointers
section
namespace Go.AM
variable {S:St} {g:Gh} {a:Act} {w:World}
theorem keep_of_heap {w w':World} {b:Nat}(h:w'.heap[b]?=w.heap[b]?):w'.heap[b]?=w.heap[b]?:=h
theorem same_of_heap {w w':World} {b o:Nat}(h:w'.heap[b]?=w.heap[b]?):w'.cell? ⟨b,o,none⟩=w.cell? ⟨b,o,none⟩∧mapAt w' b=mapAt w b:=⟨cell_of_heap h,mapAt_of_heap h⟩
theorem mapAt_cells {w:World} {b:Nat} {arr:Array Value} {T:TypeId} {f:Nat×Nat}(h:w.heap[b]?=some (.cells arr T f)):mapAt w b=none:=by unfold mapAt;rw[h]
theorem heap_alloc(w:World)(o:Obj)(b:Nat):(w.alloc o).heap[b]?=if b=w.heap.size then some o else w.heap[b]?:=by
 show(w.heap.push o)[b]?=_
 rw[Array.getElem?_push]
theorem heap_setRow_ne(w:World)(b:Nat)(arr:Array Value)(k:Nat)(h:k≠b):(w.setRow b arr).heap[k]?=w.heap[k]?:=by
 simp only[World.setRow,Array.getElem?_modify]
 rw[if_neg (fun e=>h e.symm)]
theorem size_setRow(w:World)(b:Nat)(arr:Array Value):(w.setRow b arr).heap.size=w.heap.size:=by simp[World.setRow]
theorem SR.keep [Gi] {E:Ent}(h:SR E S g a w) {fr':Nat→Nat} {w':World}(k:Keep g w ⟨fr',g.K⟩ w' ftt ftt)
  (hroot:∀b t,g.K b=.root t→w'.heap[b]?=w.heap[b]?∧fr' b=g.fr b)
  (hframe:∀b,¬E.may b→w'.heap[b]?=w.heap[b]?∧fr' b=g.fr b)
  (hout:w'.os=w.os∧w'.tape=w.tape∧w'.output=w.output) (hmono:w.heap.size≤w'.heap.size)
  (hfrb:∀b,w'.heap.size≤b→fr' b=0):SR E S ⟨fr',g.K⟩ a w' where
 size:=h.size
 defers:=h.defers
 slots t:=RepA.all k _ _ (h.slots t)
 roots b t hk:=by
  obtain⟨cs,hl,h0,arr,T,hb,hle,hc⟩:=h.roots b t hk
  obtain⟨e1,e2⟩:=hroot b t hk
  exact⟨cs,hl,e2.trans h0,arr,T,e1.trans hb,hle,fun j x hj=>let⟨v,hv,h1,r⟩:=hc j x hj;⟨v,hv,h1,RepA.all k _ _ r⟩⟩
 ur:=h.ur
 ut:=h.ut
 own b hb:=⟨Nat.lt_of_lt_of_le (h.own b hb).1 hmono,(h.own b hb).2⟩
 frame b hb:=⟨(hframe b hb).1.trans (h.frame b hb).1,(hframe b hb).2.trans (h.frame b hb).2⟩
 ext:=h.ext.trans k.ext
 out:=⟨hout.1.trans h.out.1,hout.2.1.trans h.out.2.1,hout.2.2.trans h.out.2.2⟩
 mono:=Nat.le_trans h.mono hmono
 frb:=hfrb
 pins b t hk ht:=⟨(h.pins b t hk ht).1,fun n hb=>(k.kr b t rfl (h.pins b t hk ht).1).2 n ((h.pins b t hk ht).2 n hb)⟩
theorem SR.not_may_lt [Gi] {E:Ent}(h:SR E S g a w) {b:Nat}(hb:¬E.may b):b<w.heap.size:=by
 unfold Ent.may at hb
 have:=h.mono
 omega
theorem SR.extend [Gi] {E:Ent}(h:SR E S g a w) {fr':Nat→Nat} {w':World}(hh:∀b,b<w.heap.size→w'.heap[b]?=w.heap[b]?∧fr' b=g.fr b)
  (hout:w'.os=w.os∧w'.tape=w.tape∧w'.output=w.output) (hmono:w.heap.size≤w'.heap.size)
  (hfrb:∀b,w'.heap.size≤b→fr' b=0):SR E S ⟨fr',g.K⟩ a w':=by
 refine h.keep ⟨fun b o ho=>?_,fun b t _ hk=>⟨hk,fun _ hb=>Blk.of_heap (hh b (h.own b (by rw[hk];simp)).1).1 hb⟩,fun b t _ hk=>?_⟩ (fun b t hk=>hh b (h.own b (by rw[hk];simp)).1) (fun b hb=>hh b (h.not_may_lt hb)) hout hmono hfrb
 ·have hb:b<w.heap.size:=by
   rcases Nat.lt_or_ge b w.heap.size with h'|h'
   ·exact h'
   ·have:=h.frb b h';omega
  exact⟨by show o<fr' b;rw[(hh b hb).2];exact ho,same_of_heap (hh b hb).1⟩
 ·have hb:=(h.own b (by rw[hk];simp)).1
  exact⟨hk,(hh b hb).2,keep_of_heap (hh b hb).1⟩
theorem SR.drew [Gi] {E:Ent}(h:SR E S g a w):SR E S g a {w with drawn:=w.drawn+1}:=
 h.extend (fr':=g.fr) (fun _ _=>⟨rfl,rfl⟩) ⟨rfl,rfl,rfl⟩ (Nat.le_refl _) h.frb
theorem SR.alloc [Gi] {E:Ent}(h:SR E S g a w)(o:Obj):SR E S g a (w.alloc o):=
 h.extend (fr':=g.fr) (fun b hb=>⟨by rw[heap_alloc,if_neg (by omega)],rfl⟩) ⟨rfl,rfl,rfl⟩ (by simp) (fun b hb=>h.frb b (by simp at hb;omega))
theorem SR.modify [Gi] {E:Ent}(h:SR E S g a w) {b:Nat} {arr arr':Array Value} {T:TypeId}(hb:w.heap[b]?=some (.cells arr T (0,0)))(hp:g.K b=.prot)(hm:E.may b)
  (hfr:∀o,o<g.fr b→arr'[o]?=arr[o]?):SR E S g a (w.setRow b arr'):=by
 have hne:∀c t,g.K c=.root t∨g.K c=.tail t→c≠b:=fun c t hk e=>by subst e;rw[hp]at hk;simp at hk
 refine h.keep (fr':=g.fr) ⟨fun c o ho=>⟨ho,?_⟩,fun c t _ hk=>⟨hk,fun _ hb'=>Blk.of_heap (heap_setRow_ne w b arr' c (hne c t (.inl hk))) hb'⟩,fun c t _ hk=>⟨hk,rfl,keep_of_heap (heap_setRow_ne w b arr' c (hne c t (.inr hk)))⟩⟩
  (fun c t hk=>⟨heap_setRow_ne w b arr' c (hne c t (.inl hk)),rfl⟩) (fun c hc=>⟨heap_setRow_ne w b arr' c (fun e=>hc (e▸hm)),rfl⟩) ⟨rfl,rfl,rfl⟩ (by rw[size_setRow];exact Nat.le_refl _)
  (fun c hc=>h.frb c (by rwa[size_setRow]at hc))
 by_cases e:c=b
 ·subst e
  refine⟨?_,by rw[mapAt_cells (setRow_heap w c arr arr' T (0,0) hb),mapAt_cells hb]⟩
  simp only[World.cell?,setRow_heap w c arr arr' T (0,0) hb,hb]
  simpa using hfr o ho
 ·exact same_of_heap (heap_setRow_ne w b arr' c e)
def updN {α:Type}(f:Nat→α)(b:Nat)(x:α):Nat→α:=fun c=>if c=b then x else f c
theorem updN_same {α:Type}(f:Nat→α)(b:Nat)(x:α):updN f b x b=x:=by simp[updN]
theorem updN_ne {α:Type}(f:Nat→α)(b:Nat)(x:α) {c:Nat}(h:c≠b):updN f b x c=f c:=by simp[updN,h]
theorem SR.claim [Gi] {E:Ent}(h:SR E S g a w) {b m:Nat}(hp:g.K b=.prot)(hm:E.may b)(hb:b<w.heap.size)(hle:g.fr b≤m):SR E S ⟨updN g.fr b m,g.K⟩ a w:=by
 have hne:∀c t,g.K c=.root t∨g.K c=.tail t→c≠b:=fun c t hk e=>by subst e;rw[hp]at hk;simp at hk
 refine h.keep ⟨fun c o ho=>⟨?_,rfl,rfl⟩,fun c t _ hk=>⟨hk,fun _ hb=>hb⟩,fun c t _ hk=>⟨hk,updN_ne _ _ _ (hne c t (.inr hk)),rfl⟩⟩
  (fun c t hk=>⟨rfl,updN_ne _ _ _ (hne c t (.inl hk))⟩) (fun c hc=>⟨rfl,updN_ne _ _ _ (fun e=>hc (e▸hm))⟩) ⟨rfl,rfl,rfl⟩ (Nat.le_refl _) (fun c hc=>?_)
 ·by_cases e:c=b
  ·subst e;show o<updN g.fr c m c;rw[updN_same];omega
  ·show o<updN g.fr b m c;rw[updN_ne _ _ _ e];exact ho
 ·rw[updN_ne _ _ _ (by omega)];exact h.frb c hc
def Kd.fil(rt tt:Tok→Bool):Kd→Kd
 |.root t=>if rt t then .root t else .prot
 |.tail t=>if tt t then .tail t else .prot
 |.prot=>.prot
theorem Kd.fil_root {rt tt:Tok→Bool} {t:Tok}:∀{k:Kd},k.fil rt tt=.root t↔k=.root t∧rt t=true
 |.prot=>by simp[Kd.fil]
 |.tail u=>by simp only[Kd.fil];split<;>simp
 |.root u=>by
  simp only[Kd.fil]
  split
  ·rename_i h;constructor
   ·intro e;injection e with e;subst e;exact⟨rfl,h⟩
   ·exact fun e=>e.1
  ·rename_i h;constructor
   ·intro e;cases e
   ·rintro⟨e,h'⟩;injection e with e;subst e;exact absurd h' h
theorem Kd.fil_tail {rt tt:Tok→Bool} {t:Tok}:∀{k:Kd},k.fil rt tt=.tail t↔k=.tail t∧tt t=true
 |.prot=>by simp[Kd.fil]
 |.root u=>by simp only[Kd.fil];split<;>simp
 |.tail u=>by
  simp only[Kd.fil]
  split
  ·rename_i h;constructor
   ·intro e;injection e with e;subst e;exact⟨rfl,h⟩
   ·exact fun e=>e.1
  ·rename_i h;constructor
   ·intro e;cases e
   ·rintro⟨e,h'⟩;injection e with e;subst e;exact absurd h' h
def Gh.fil(rt tt:Tok→Bool)(g:Gh):Gh:=⟨g.fr,fun b=>(g.K b).fil rt tt⟩
theorem Gh.fil_root {rt tt:Tok→Bool} {g:Gh} {b:Nat} {t:Tok}:(g.fil rt tt).K b=.root t↔g.K b=.root t∧rt t=true:=Kd.fil_root
theorem Gh.fil_tail {rt tt:Tok→Bool} {g:Gh} {b:Nat} {t:Tok}:(g.fil rt tt).K b=.tail t↔g.K b=.tail t∧tt t=true:=Kd.fil_tail
theorem SR.filter [Gi] {E:Ent}(h:SR E S g a w)(rt tt:Tok→Bool)(hpin:∀t,t∈S.pin→rt t=true:=by exact fun _ _=>rfl):SR E (S.fil rt tt) (g.fil rt tt) a w:=by
 have k:Keep g w (g.fil rt tt) w rt tt:=⟨Ext.refl _ _,fun b t ht hk=>⟨Gh.fil_root.2 ⟨hk,ht⟩,fun _ hb=>hb⟩,fun b t ht hk=>⟨Gh.fil_tail.2 ⟨hk,ht⟩,rfl,rfl⟩⟩
 refine⟨h.size,h.defers,fun t=>?_,fun b t hk=>?_,fun b b' t hk hk'=>h.ur b b' t (Gh.fil_root.1 hk).1 (Gh.fil_root.1 hk').1,fun b b' t hk hk'=>h.ut b b' t (Gh.fil_tail.1 hk).1 (Gh.fil_tail.1 hk').1,
  fun b hb=>h.own b ?_,h.frame,h.ext,h.out,h.mono,h.frb,fun b t hk ht=>⟨Gh.fil_root.2 ⟨(h.pins b t hk ht).1,hpin t ht⟩,(h.pins b t hk ht).2⟩⟩
 ·rw[St.get_fil];exact RepA.upd k _ _ (h.slots t)
 ·obtain⟨cs,hl,h0,arr,T,hb,hle,hc⟩:=h.roots b t (Gh.fil_root.1 hk).1
  refine⟨cs.map (AV.upd (AM.fil rt tt)),?_,h0,arr,T,hb,by simpa using hle,fun j x hj=>?_⟩
  ·simp only[St.fil]
   rw[lookT_map (List.map (AV.upd (AM.fil rt tt))),hl]
   rfl
  ·simp only[List.getElem?_map,Option.map_eq_some_iff]at hj
   obtain⟨y,hy,rfl⟩:=hj
   obtain⟨v,hv,h1,r⟩:=hc j y hy
   exact⟨v,hv,h1,RepA.upd k _ _ r⟩
 ·intro e;apply hb;show(g.K b).fil rt tt=.prot;rw[e];rfl
theorem SR.put [Gi] {E:Ent}(h:SR E S g a w) {d:Nat} {x:AV} {v:Value}(r:RepA g w x v)(hd:d<S.n):SR E (S.set d x) g (a.put (some d) v) w:=by
 refine⟨?_,h.defers,fun t=>?_,?_,h.ur,h.ut,h.own,h.frame,h.ext,h.out,h.mono,h.frb,fun b t hk ht=>h.pins b t hk (by rw[←St.set_pin];exact ht)⟩
 ·rw[St.set_n];simp[Act.put,h.size]
 ·rw[St.get_set]
  split
  ·rename_i e;subst e
   have:d<a.tmps.size:=by rw[h.size];exact hd
   simpa[Act.put,this]using r
  ·rename_i e
   have:(a.put (some d) v).tmps.getD t undef=a.tmps.getD t undef:=by
    simp only[Act.put,Array.getD_eq_getD_getElem?,Array.getElem?_setIfInBounds_ne e]
   rw[this];exact h.slots t
 ·intro b t hk;rw[St.set_rs];exact h.roots b t hk
theorem SR.adoptRoot [Gi] {E:Ent}(h:SR E S g a w) {b:Nat} {t:Tok} {cs:List AV} {arr:Array Value} {T:TypeId}(hp:g.K b=.prot)(hm:E.may b)(hno:∀c,g.K c≠ .root t)
  (hb:w.heap[b]?=some (.cells arr T (0,0))) (h0:g.fr b=0) (hle:cs.length≤arr.size) (hc:∀(j:Nat) (x:AV),cs[j]?=some x→∃v,arr[j]?=some v∧v.oneCell'=true∧RepA g w x v):
  SR E {S with rs:=putT S.rs t cs} ⟨g.fr,updN g.K b (.root t)⟩ a w:=by
 have hne:∀c,g.K c≠ .prot→c≠b:=fun c hk e=>hk (e▸hp)
 have k:Keep g w ⟨g.fr,updN g.K b (.root t)⟩ w ftt ftt:=⟨Ext.refl _ _,fun c u _ hk=>⟨by show updN g.K b _ c=_;rw[updN_ne _ _ _ (hne c (by rw[hk];simp))];exact hk,fun _ hb=>hb⟩,
  fun c u _ hk=>⟨by show updN g.K b _ c=_;rw[updN_ne _ _ _ (hne c (by rw[hk];simp))];exact hk,rfl,rfl⟩⟩
 have hroot:∀c u,updN g.K b (.root t) c=.root u→(c=b∧u=t)∨(c≠b∧g.K c=.root u∧u≠t):=fun c u hk=>by
  by_cases e:c=b
  ·subst e;rw[updN_same]at hk;injection hk with hk;exact .inl ⟨rfl,hk.symm⟩
  ·rw[updN_ne _ _ _ e]at hk;exact .inr ⟨e,hk,fun e'=>hno c (e'▸hk)⟩
 refine⟨h.size,h.defers,fun u=>RepA.all k _ _ (h.slots u),fun c u hk=>?_,fun c c' u hk hk'=>?_,fun c c' u hk hk'=>?_,fun c hc'=>?_,h.frame,h.ext,h.out,h.mono,h.frb,fun c u hk hu=>?_⟩
 ·rcases hroot c u hk with ⟨rfl,rfl⟩|⟨hcb,hk,hut⟩
  ·refine⟨cs,by simp only[];rw[lookT_putT,if_pos rfl],h0,arr,T,hb,hle,fun j x hj=>?_⟩
   obtain⟨v,hv,h1,r⟩:=hc j x hj
   exact⟨v,hv,h1,RepA.all k _ _ r⟩
  ·obtain⟨ds,hl,h0,arr,T,hb,hle,hc⟩:=h.roots c u hk
   refine⟨ds,by simp only[];rw[lookT_putT,if_neg (fun e=>hut e.symm)];exact hl,h0,arr,T,hb,hle,fun j x hj=>?_⟩
   obtain⟨v,hv,h1,r⟩:=hc j x hj
   exact⟨v,hv,h1,RepA.all k _ _ r⟩
 ·rcases hroot c u hk with ⟨rfl,rfl⟩|⟨hcb,hk,hut⟩<;>rcases hroot c' u hk' with ⟨rfl,e⟩|⟨hcb',hk',hut'⟩
  ·rfl
  ·exact absurd rfl hut'
  ·exact absurd e hut
  ·exact h.ur c c' u hk hk'
 ·have f:∀c,updN g.K b (.root t) c=.tail u→g.K c=.tail u:=fun c hk=>by
   by_cases e:c=b
   ·subst e;rw[updN_same]at hk;cases hk
   ·rwa[updN_ne _ _ _ e]at hk
  exact h.ut c c' u (f c hk) (f c' hk')
 ·by_cases e:c=b
  ·subst e;exact⟨(Array.getElem?_eq_some_iff.1 hb).1,hm⟩
  ·have:updN g.K b (.root t) c≠ .prot:=hc'
   rw[updN_ne _ _ _ e]at this;exact h.own c this
 ·have hh:=h.pins c u hk hu
  refine⟨?_,hh.2⟩
  show updN g.K b _ c=_
  rw[updN_ne _ _ _ (hne c (by rw[hh.1];simp))];exact hh.1
theorem SR.adoptTail [Gi] {E:Ent}(h:SR E S g a w) {b:Nat} {t:Tok}(hp:g.K b=.prot)(hm:E.may b)(hb:b<w.heap.size)(hno:∀c,g.K c≠ .tail t):
  SR E S ⟨g.fr,updN g.K b (.tail t)⟩ a w:=by
 have hne:∀c,g.K c≠ .prot→c≠b:=fun c hk e=>hk (e▸hp)
 have k:Keep g w ⟨g.fr,updN g.K b (.tail t)⟩ w ftt ftt:=⟨Ext.refl _ _,fun c u _ hk=>⟨by show updN g.K b _ c=_;rw[updN_ne _ _ _ (hne c (by rw[hk];simp))];exact hk,fun _ hb=>hb⟩,
  fun c u _ hk=>⟨by show updN g.K b _ c=_;rw[updN_ne _ _ _ (hne c (by rw[hk];simp))];exact hk,rfl,rfl⟩⟩
 have hroot:∀c u,updN g.K b (.tail t) c=.root u→g.K c=.root u:=fun c u hk=>by
  by_cases e:c=b
  ·subst e;rw[updN_same]at hk;cases hk
  ·rwa[updN_ne _ _ _ e]at hk
 have htail:∀c u,updN g.K b (.tail t) c=.tail u→(c=b∧u=t)∨(c≠b∧g.K c=.tail u∧u≠t):=fun c u hk=>by
  by_cases e:c=b
  ·subst e;rw[updN_same]at hk;injection hk with hk;exact .inl ⟨rfl,hk.symm⟩
  ·rw[updN_ne _ _ _ e]at hk;exact .inr ⟨e,hk,fun e'=>hno c (e'▸hk)⟩
 refine⟨h.size,h.defers,fun u=>RepA.all k _ _ (h.slots u),fun c u hk=>?_,fun c c' u hk hk'=>h.ur c c' u (hroot c u hk) (hroot c' u hk'),fun c c' u hk hk'=>?_,fun c hc'=>?_,h.frame,h.ext,h.out,h.mono,h.frb,fun c u hk hu=>?_⟩
 ·obtain⟨ds,hl,h0,arr,T,hb,hle,hc⟩:=h.roots c u (hroot c u hk)
  refine⟨ds,hl,h0,arr,T,hb,hle,fun j x hj=>?_⟩
  obtain⟨v,hv,h1,r⟩:=hc j x hj
  exact⟨v,hv,h1,RepA.all k _ _ r⟩
 ·rcases htail c u hk with ⟨rfl,rfl⟩|⟨hcb,hk,hut⟩<;>rcases htail c' u hk' with ⟨rfl,e⟩|⟨hcb',hk',hut'⟩
  ·rfl
  ·exact absurd rfl hut'
  ·exact absurd e hut
  ·exact h.ut c c' u hk hk'
 ·by_cases e:c=b
  ·subst e;exact⟨hb,hm⟩
  ·have:updN g.K b (.tail t) c≠ .prot:=hc'
   rw[updN_ne _ _ _ e]at this;exact h.own c this
 ·have hh:=h.pins c u hk hu
  refine⟨?_,hh.2⟩
  show updN g.K b _ c=_
  rw[updN_ne _ _ _ (hne c (by rw[hh.1];simp))];exact hh.1
theorem SR.storeR [Gi] {E:Ent}(h:SR E S g a w) {b:Nat} {t:Tok} {cs':List AV} {arr arr':Array Value} {T:TypeId}(hk:g.K b=.root t)
  (hb:w.heap[b]?=some (.cells arr T (0,0))) (hsz:arr.size=arr'.size) (hle:cs'.length≤arr'.size) (hc:∀(j:Nat) (x:AV),cs'[j]?=some x→∃v,arr'[j]?=some v∧v.oneCell'=true∧RepA g w x v):
  SR E {S with rs:=putT S.rs t cs'} g a (w.setRow b arr'):=by
 have hm:=(h.own b (by rw[hk];simp)).2
 have h0:g.fr b=0:=by obtain⟨_,_,h0,_⟩:=h.roots b t hk;exact h0
 have hnt:∀c u,g.K c=.tail u→c≠b:=fun c u hk' e=>by subst e;rw[hk]at hk';cases hk'
 have k:Keep g w g (w.setRow b arr') ftt ftt:=⟨fun c o ho=>⟨ho,same_of_heap (heap_setRow_ne w b arr' c (fun e=>by subst e;omega))⟩,fun c u _ hku=>⟨hku,fun n hn=>by
  by_cases e:c=b
  ·subst e
   cases n with
   |le n=>
    obtain⟨arr2,T2,h2,h3⟩:=hn
    rw[hb]at h2
    injection h2 with h2;injection h2 with h4 h5;subst h4
    exact⟨arr',T,setRow_heap w c arr arr' T (0,0) hb,by omega⟩
   |eq T2 m=>
    obtain⟨arr2,h2,h3⟩:=hn
    rw[hb]at h2
    injection h2 with h2;injection h2 with h4 h5;subst h4;subst h5
    exact⟨arr',setRow_heap w c arr arr' T (0,0) hb,by omega⟩
  ·exact Blk.of_heap (heap_setRow_ne w b arr' c e) hn⟩,
  fun c u _ hk'=>⟨hk',rfl,keep_of_heap (heap_setRow_ne w b arr' c (hnt c u hk'))⟩⟩
 refine⟨h.size,h.defers,fun u=>RepA.all k _ _ (h.slots u),fun c u hku=>?_,h.ur,h.ut,fun c hc'=>?_,fun c hc'=>?_,h.ext.trans k.ext,h.out,by rw[size_setRow];exact h.mono,fun c hc'=>h.frb c (by rwa[size_setRow]at hc'),fun c u hk hu=>⟨(h.pins c u hk hu).1,fun n hn=>(k.kr c u rfl (h.pins c u hk hu).1).2 n ((h.pins c u hk hu).2 n hn)⟩⟩
 ·by_cases e:c=b
  ·subst e
   have:u=t:=by rw[hk]at hku;injection hku with e;exact e.symm
   subst this
   refine⟨cs',by simp only[];rw[lookT_putT,if_pos rfl],h0,arr',T,setRow_heap w c arr arr' T (0,0) hb,hle,fun j x hj=>?_⟩
   obtain⟨v,hv,h1,r⟩:=hc j x hj
   exact⟨v,hv,h1,RepA.all k _ _ r⟩
  ·have hut:t≠u:=fun e'=>by subst e';exact e (h.ur c b _ hku hk)
   obtain⟨ds,hl,h0,arr1,T,hb,hle,hc⟩:=h.roots c u hku
   refine⟨ds,by simp only[];rw[lookT_putT,if_neg hut];exact hl,h0,arr1,T,(heap_setRow_ne w b arr' c e).trans hb,hle,fun j x hj=>?_⟩
   obtain⟨v,hv,h1,r⟩:=hc j x hj
   exact⟨v,hv,h1,RepA.all k _ _ r⟩
 ·rw[size_setRow];exact h.own c hc'
 ·exact⟨(heap_setRow_ne w b arr' c (fun e=>hc' (e▸hm))).trans (h.frame c hc').1,(h.frame c hc').2⟩
theorem SR.rootW [Gi] {E:Ent}(h:SR E S g a w) {b:Nat} {t:Tok} {cs':List AV} {arr:Array Value} {T:TypeId}(hk:g.K b=.root t)
  (hb:w.heap[b]?=some (.cells arr T (0,0))) (hle:cs'.length≤arr.size) (hc:∀(j:Nat) (x:AV),cs'[j]?=some x→∃v,arr[j]?=some v∧v.oneCell'=true∧RepA g w x v):
  SR E {S with rs:=putT S.rs t cs'} g a w:=by
 refine⟨h.size,h.defers,fun u=>h.slots u,fun c u hku=>?_,h.ur,h.ut,h.own,h.frame,h.ext,h.out,h.mono,h.frb,h.pins⟩
 by_cases e:c=b
 ·subst e
  have:u=t:=by rw[hk]at hku;injection hku with e;exact e.symm
  subst this
  exact⟨cs',by simp only[];rw[lookT_putT,if_pos rfl],(by obtain⟨_,_,h0,_⟩:=h.roots c u hk;exact h0),arr,T,hb,hle,hc⟩
 ·have hut:t≠u:=fun e'=>by subst e';exact e (h.ur c b _ hku hk)
  obtain⟨ds,hl,rest⟩:=h.roots c u hku
  exact⟨ds,by simp only[];rw[lookT_putT,if_neg hut];exact hl,rest⟩
def LeA(x y:AV):Prop:=∀g w v,RepA g w x v→RepA g w y v
theorem LeA.refl(x:AV):LeA x x:=fun _ _ _ h=>h
theorem LeA.junk(x:AV):LeA x .junk:=fun _ _ _ _=>by simp only[RepA]
theorem LeA.dem(t:Tok)(z:Nat)(es:List PV):LeA (.os t z es) (.p (.sl z es)):=fun _ _ _ h=>by simp only[RepA]at h⊢;exact h.1
theorem LeA.nil(z:Nat):LeA (.p (.opq (.slice none 0 0))) (.p (.sl z [])):=fun _ _ _ h=>by
 simp only[RepA,RepP]at h⊢;exact .inl ⟨trivial,none,0,h⟩
theorem LeA.nil_os(t:Tok)(z:Nat):LeA (.p (.opq (.slice none 0 0))) (.os t z []):=fun _ _ _ h=>by
 simp only[RepA,RepP]at h⊢;exact⟨.inl ⟨trivial,none,0,h⟩,.inl ⟨none,0,h⟩⟩
theorem SR.weaken [Gi] {E:Ent}(h:SR E S g a w) {S':St}(hn:S'.n=S.n)(hs:∀t,LeA (S.get t) (S'.get t))(hr:S'.rs=S.rs)(hp:S'.pin=S.pin):SR E S' g a w:=
 ⟨by rw[hn];exact h.size,h.defers,fun t=>hs t _ _ _ (h.slots t),fun b t hk=>by rw[hr];exact h.roots b t hk,h.ur,h.ut,h.own,h.frame,h.ext,h.out,h.mono,h.frb,fun b t hk ht=>h.pins b t hk (by rw[←hp];exact ht)⟩
end Go.AM
end
section
namespace Go.AM
structure Ty where
 desc:TypeDesc
 size:Nat
 bytes:Nat
 zero:Option (List PV)
def toPV:Value→PV
 |.int k n=>.int k n
 |.bool b=>.bool b
 |.string s=>.str s.data.toList
 |v=>.opq v
theorem RepP.toPV {fr:Nat→Nat} {w:World}(v:Value):RepP fr w (toPV v) v:=by
 cases v<;>simp[AM.toPV,RepP]
def ty(P:Program)(t:TypeId):Option Ty:=
 match P.info? t,P.underlying t with
 |some i,some d=>some ⟨d,i.size,i.bytes,i.zero.map fun v=>v.cells.toList.map toPV⟩
 |_,_=>none
theorem ty_spec {P:Program} {t:TypeId} {T:Ty}(h:ty P t=some T):
  ∃i,P.info? t=some i∧P.underlying t=some T.desc∧i.size=T.size∧i.bytes=T.bytes∧i.zero.map (fun v=>v.cells.toList.map toPV)=T.zero:=by
 unfold ty at h
 split at h
 ·rename_i i d h1 h2;simp at h;subst h;exact⟨i,h1,h2,rfl,rfl,rfl⟩
 ·cases h
section
variable {P:Program} {t:TypeId} {T:Ty} (w:World)
theorem ty_underlying(h:ty P t=some T):(underlying t).run P w=.ok T.desc w:=by
 obtain⟨i,_,h2,_⟩:=ty_spec h;exact run_underlying h2 w
theorem ty_size(h:ty P t=some T):(sizeOf t).run P w=.ok T.size w:=by
 obtain⟨i,h1,_,h3,_⟩:=ty_spec h;simp[sizeOf,typeInfo,h1,h3]
theorem ty_info(h:ty P t=some T):∃i,(∀w,(typeInfo t).run P w=.ok i w)∧i.bytes=T.bytes:=by
 obtain⟨i,h1,_,h3,h4,_⟩:=ty_spec h;exact⟨i,fun w=>by simp[typeInfo,h1],h4⟩
theorem ty_zero {cs:List PV}(h:ty P t=some T)(hz:T.zero=some cs):∃v,(∀w,(zeroValue t).run P w=.ok v w)∧v.cells.toList.map toPV=cs:=by
 obtain⟨i,h1,_,h3,h4,h5⟩:=ty_spec h
 rw[hz]at h5
 simp only[Option.map_eq_some_iff]at h5
 obtain⟨v,hv,hc⟩:=h5
 exact⟨v,fun w=>by simp[zeroValue,typeInfo,h1,hv],hc⟩
end
def isAggD:TypeDesc→Bool
 |.struct _=>true
 |.array _ _=>true
 |_=>false
theorem ty_agg {P:Program} {t:TypeId} {T:Ty}(w:World)(h:ty P t=some T):(isAgg t).run P w=.ok (isAggD T.desc) w:=by
 unfold isAgg
 rw[Sem.run_bind,ty_underlying w h]
 cases T.desc<;>rfl
def St.ev(S:St):Operand→AV
 |.tmp t=>S.get t
 |.const v=>.p (toPV v)
 |.func f=>.p (.opq (.func (.func f) #[] #[]))
 |.global _=>.junk
theorem SR.ev [Gi] {E:Ent} {S:St} {g:Gh} {a:Act} {w:World}(h:SR E S g a w)(x:Operand):RepA g w (S.ev x) (a.eval x):=by
 cases x with
 |tmp t=>exact h.slots t
 |const v=>simp only[St.ev,RepA,Act.eval];exact RepP.toPV v
 |func f=>simp only[St.ev,RepA,RepP,Act.eval]
 |global g=>simp only[St.ev,RepA]
def unG:AV→Prop×AV
 |.gd c x=>(c=true,x)
 |x=>(True,x)
theorem unG_spec {g:Gh} {w:World} {x:AV} {v:Value}(h:(unG x).1)(r:RepA g w x v):RepA g w (unG x).2 v:=by
 cases x<;>simp only[unG]at h⊢ <;>first|exact r|(simp only[RepA]at r;exact r.1 h)
abbrev PR:=Prop×AV
def bad:PR:=(False,.junk)
def intBin(op:BinOp)(k:IntKind)(a b:Int):Prop×PV:=
 match op with
 |.add=>(True,.int k (k.wrap (a+b)))
 |.sub=>(True,.int k (k.wrap (a-b)))
 |.mul=>(True,.int k (k.wrap (a*b)))
 |.quo=>(b≠0,.int k (k.wrap (a.tdiv b)))
 |.rem=>(b≠0,.int k (a.tmod b))
 |.and=>(True,.int k (k.wrap (BitVec.ofInt k.bits a&&& BitVec.ofInt k.bits b).toNat))
 |.or=>(True,.int k (k.wrap (BitVec.ofInt k.bits a |||BitVec.ofInt k.bits b).toNat))
 |.xor=>(True,.int k (k.wrap (BitVec.ofInt k.bits a^^^BitVec.ofInt k.bits b).toNat))
 |.andNot=>(True,.int k (k.wrap (BitVec.ofInt k.bits a&&& ~~~ BitVec.ofInt k.bits b).toNat))
 |.eql=>(True,.bool (decide (a=b)))
 |.neq=>(True,.bool (!decide (a=b)))
 |.lss=>(True,.bool (decide (a<b)))
 |.leq=>(True,.bool (decide (a≤b)))
 |.gtr=>(True,.bool (decide (b<a)))
 |.geq=>(True,.bool (decide (b≤a)))
 |_=>(False,.bool false)
def strBin(op:BinOp)(a b:List UInt8):Prop×PV:=
 match op with
 |.add=>(((a.length+b.length:Nat):Int)≤9223372036854775807,.str (a++b))
 |.eql=>(True,.bool (decide (a=b)))
 |.neq=>(True,.bool (!decide (a=b)))
 |.lss=>(True,.bool (Op.bytesLess a b))
 |.leq=>(True,.bool (Op.bytesLess a b || decide (a=b)))
 |.gtr=>(True,.bool !(Op.bytesLess a b || decide (a=b)))
 |.geq=>(True,.bool !(Op.bytesLess a b))
 |_=>(False,.bool false)
def isAddr:AV→Bool
 |.lp _ _=>true
 |.ip _ _ _=>true
 |.p (.pt _ _)=>true
 |_=>false
def isNilPtr:AV→Bool
 |.p (.opq (.pointer none))=>true
 |_=>false
def ptrEq(x y:AV):Option Bool:=
 if isNilPtr x then(if isNilPtr y then some true else if isAddr y then some false else none)
 else if isAddr x&&isNilPtr y then some false else none
def isPtrD:TypeDesc→Bool
 |.pointer _=>true
 |_=>false
def isBoolD:TypeDesc→Bool
 |.bool=>true
 |_=>false
def binII(op:BinOp)(k:IntKind)(a:Int)(k':IntKind)(b:Int):PR:=
 match op with
 |.shl=>(0≤b,.p (.int k (k.wrap (a*2^(min b.toNat k.bits)))))
 |.shr=>(0≤b,.p (.int k (a.fdiv (2^(min b.toNat k.bits)))))
 |op=>if k=k' then((intBin op k a b).1,.p (intBin op k a b).2)else bad
def binBB(P:Program)(op:BinOp)(t:TypeId)(a b:Bool):PR:=
 match ty P t with
 |some T=>if isBoolD T.desc then
   (match op with
   |.eql=>(True,.p (.bool (a==b)))
   |.neq=>(True,.p (.bool (a !=b)))
   |_=>bad)else bad
 |none=>bad
def ptrRes(op:BinOp)(c:Option Bool):PR:=
 match c,op with
 |some c,.eql=>(True,.p (.bool c))
 |some c,.neq=>(True,.p (.bool (!c)))
 |_,_=>bad
def binPP(P:Program)(op:BinOp)(t:TypeId)(x y:AV):PR:=
 match ty P t with
 |some T=>if isPtrD T.desc then ptrRes op (ptrEq x y)else bad
 |none=>bad
def binA(P:Program)(op:BinOp)(t:TypeId)(x y:AV):PR:=
 match x,y with
 |.p (.int k a),.p (.int k' b)=>binII op k a k' b
 |.p (.str a),.p (.str b)=>((strBin op a b).1,.p (strBin op a b).2)
 |.p (.bool a),.p (.bool b)=>binBB P op t a b
 |x,y=>binPP P op t x y
theorem intBin_sound {P : Program} {fr : Nat → Nat} {w : World} (op : BinOp) (t : TypeId) (k : IntKind) (a b : Int) (h1 : op ≠ .shl) (h2 : op ≠ .shr) (h : (intBin op k a b).1) :
    ∃ r, (binOp op t (.int k a) (.int k b)).run P w = .ok r w ∧ RepP fr w (intBin op k a b).2 r := by
  cases op <;> simp only [intBin] at h ⊢ <;> first
    | exact absurd rfl h1
    | exact absurd rfl h2
    | exact h.elim
    | (refine ⟨_, ?_, by simp only [RepP]; rfl⟩
       simp [binOp, Op.intArith, Op.intDiv, Op.intBits, Op.intCmp, h]; done)
    | (refine ⟨_, ?_, by simp only [RepP]; rfl⟩
       simp [binOp, Op.intCmp]
       by_cases e : a = b <;> simp [e])
theorem strBin_sound {P : Program} {fr : Nat → Nat} {w : World} (op : BinOp) (t : TypeId) (a b : List UInt8) (h : (strBin op a b).1) :
    ∃ r, (binOp op t (.string ⟨a.toArray⟩) (.string ⟨b.toArray⟩)).run P w = .ok r w ∧ RepP fr w (strBin op a b).2 r := by
  have hm : IntKind.i64.max = 9223372036854775807 := by decide
  have hsz : ∀ l : List UInt8, (⟨l.toArray⟩ : ByteArray).size = l.length := fun l => by simp [ByteArray.size]
  have hap : (⟨a.toArray⟩ : ByteArray) ++ ⟨b.toArray⟩ = ⟨(a ++ b).toArray⟩ := by
    apply ByteArray.ext; simp
  have hbeq : (a == b) = decide (a = b) := by by_cases e : a = b <;> simp [e]
  cases op <;> simp only [strBin] at h ⊢ <;> first
    | exact h.elim
    | (refine ⟨_, ?_, by simp only [RepP]; rfl⟩
       simp [binOp, Op.stringOp, hbeq]; done)
    | (refine ⟨_, ?_, by simp only [RepP]; rfl⟩
       simp only [binOp, Op.stringOp, hsz, hm]
       rw [if_neg (by omega), hap]; rfl)
theorem eqGuard_none {P:Program} {op:BinOp} {t:TypeId} {xo yo:Operand} {u v:Value} {w:World}(h1:u≠ .nilIface)(h2:∀cs,u≠ .agg cs):
  (eqGuard op t xo yo u v).run P w=.ok () w:=by
 cases op<;>first
  |rfl
  |(cases u<;>first|exact absurd rfl h1|exact absurd rfl (h2 _)|(cases v<;>rfl))
theorem ptr_rep {g:Gh} {w:World} {x:AV} {v:Value}(h:isAddr x=true)(r:RepA g w x v):∃a,v=.pointer (some a):=by
 cases x with
 |lp t o=>simp only[RepA]at r;obtain⟨b,_,e⟩:=r;exact⟨_,e⟩
 |ip z e o=>simp only[RepA]at r;obtain⟨b,_,e,_⟩:=r;exact⟨_,e⟩
 |p x=>
  cases x with
  |pt z e=>simp only[RepA,RepP]at r;obtain⟨b,_,e,_⟩:=r;exact⟨_,e⟩
  |_=>cases h
 |_=>cases h
theorem nil_rep {g:Gh} {w:World} {x:AV} {v:Value}(h:isNilPtr x=true)(r:RepA g w x v):v=.pointer none:=by
 unfold isNilPtr at h
 split at h
 ·simpa only[RepA,RepP]using r
 ·cases h
section
variable {P:Program} {t:TypeId} (w:World)
theorem run_eq_bool(h:P.underlying t=some .bool)(a b:Bool):
  (binOp .eql t (.bool a) (.bool b)).run P w=.ok (.bool (a==b)) w∧(binOp .neq t (.bool a) (.bool b)).run P w=.ok (.bool (a !=b)) w:=by
 have e:(Op.equal t (.bool a) (.bool b)).run P w=.ok (a==b) w:=run_equalIn_bool' w 9999 t a b h
 have e1:binOp .eql t (.bool a) (.bool b)=(do let c←Op.equal t (.bool a) (.bool b);pure (.bool c)):=rfl
 have e2:binOp .neq t (.bool a) (.bool b)=(do let c←Op.equal t (.bool a) (.bool b);pure (.bool (!c))):=rfl
 rw[e1,e2,Sem.run_bind,Sem.run_bind,e]
 exact⟨rfl,rfl⟩
theorem run_eq_ptr {el:TypeId}(h:P.underlying t=some (.pointer el))(x y:Option Addr)(hn:x=none∨y=none):
  (binOp .eql t (.pointer x) (.pointer y)).run P w=.ok (.bool (x.isNone&&y.isNone)) w∧(binOp .neq t (.pointer x) (.pointer y)).run P w=.ok (.bool (!(x.isNone&&y.isNone))) w:=by
 have e0:∀d,(Op.equalIn (d+1) t (.pointer x) (.pointer y)).run P w=.ok (x.isNone&&y.isNone) w:=by
  intro d
  cases x with
  |none=>cases y<;>simp[Op.equalIn,run_underlying h]
  |some a=>
   cases y with
   |none=>simp[Op.equalIn,run_underlying h]
   |some b=>simp at hn
 have e:(Op.equal t (.pointer x) (.pointer y)).run P w=.ok (x.isNone&&y.isNone) w:=e0 9999
 have e1:binOp .eql t (.pointer x) (.pointer y)=(do let c←Op.equal t (.pointer x) (.pointer y);pure (.bool c)):=by cases x<;>cases y<;>rfl
 have e2:binOp .neq t (.pointer x) (.pointer y)=(do let c←Op.equal t (.pointer x) (.pointer y);pure (.bool (!c))):=by cases x<;>cases y<;>rfl
 rw[e1,e2,Sem.run_bind,Sem.run_bind,e]
 exact⟨rfl,rfl⟩
end
theorem binII_sound {P:Program} {g:Gh} {w:World}(op:BinOp)(t:TypeId)(k k':IntKind)(a b:Int)(h:(binII op k a k' b).1):
  ∃r,(binOp op t (.int k a) (.int k' b)).run P w=.ok r w∧RepA g w (binII op k a k' b).2 r:=by
 unfold binII at h⊢
 split at h
 ·refine⟨_,?_,by simp only[RepA,RepP];rfl⟩
  have hb:¬b<0:=by simp only[]at h;omega
  simp[binOp,Op.shift,hb]
 ·refine⟨_,?_,by simp only[RepA,RepP];rfl⟩
  have hb:¬b<0:=by simp only[]at h;omega
  simp[binOp,Op.shift,hb]
 ·rename_i h1 h2
  split at h
  ·rename_i hk
   subst hk
   obtain⟨r,hr,hR⟩:=intBin_sound (fr:=g.fr) (w:=w) (P:=P) op t k a b h1 h2 h
   refine⟨r,hr,?_⟩
   simp only[if_true,RepA]
   exact hR
  ·exact h.elim
theorem binBB_sound {P:Program} {g:Gh} {w:World}(op:BinOp)(t:TypeId)(a b:Bool)(h:(binBB P op t a b).1):
  ∃r,(binOp op t (.bool a) (.bool b)).run P w=.ok r w∧RepA g w (binBB P op t a b).2 r:=by
 unfold binBB at h⊢
 cases hT:ty P t with
 |none=>simp only[hT]at h;exact h.elim
 |some T=>
  simp only[hT]at h⊢
  by_cases hd:isBoolD T.desc=true
  ·simp only[hd,if_true]at h⊢
   have hdd:T.desc=.bool:=by cases hq:T.desc<;>simp[hq,isBoolD]at hd;rfl
   obtain⟨i,_,hu,_⟩:=ty_spec hT
   rw[hdd]at hu
   cases op<;>first
    |exact h.elim
    |exact⟨_,(run_eq_bool w hu a b).1,by simp only[RepA,RepP]⟩
    |exact⟨_,(run_eq_bool w hu a b).2,by simp only[RepA,RepP]⟩
  ·simp only[hd]at h;exact h.elim
theorem ptrEq_sound {P:Program} {g:Gh} {w:World} {t el:TypeId} {x y:AV} {u v:Value}(hu:P.underlying t=some (.pointer el))(hx:RepA g w x u)(hy:RepA g w y v)
  {c:Bool} (hc:ptrEq x y=some c):(u≠ .nilIface∧∀cs,u≠ .agg cs)∧(binOp .eql t u v).run P w=.ok (.bool c) w∧(binOp .neq t u v).run P w=.ok (.bool !c) w:=by
 unfold ptrEq at hc
 split at hc
 ·rename_i hxn
  have:=nil_rep hxn hx;subst this
  split at hc
  ·rename_i hyn
   have:=nil_rep hyn hy;subst this
   simp at hc;subst hc
   exact⟨⟨by simp,by simp⟩,run_eq_ptr w hu none none (.inl rfl)⟩
  ·split at hc
   ·rename_i hya
    obtain⟨a,rfl⟩:=ptr_rep hya hy
    simp at hc;subst hc
    exact⟨⟨by simp,by simp⟩,run_eq_ptr w hu none (some a) (.inl rfl)⟩
   ·cases hc
 ·split at hc
  ·rename_i hxy
   simp only[Bool.and_eq_true]at hxy
   obtain⟨a,rfl⟩:=ptr_rep hxy.1 hx
   have:=nil_rep hxy.2 hy;subst this
   simp at hc;subst hc
   exact⟨⟨by simp,by simp⟩,run_eq_ptr w hu (some a) none (.inr rfl)⟩
  ·cases hc
theorem binPP_sound {P:Program} {g:Gh} {w:World} {op:BinOp} {t:TypeId} {x y:AV} {u v:Value}(h:(binPP P op t x y).1)(hx:RepA g w x u)(hy:RepA g w y v):
  (u≠ .nilIface∧∀cs,u≠ .agg cs)∧∃r,(binOp op t u v).run P w=.ok r w∧RepA g w (binPP P op t x y).2 r:=by
 unfold binPP at h⊢
 cases hT:ty P t with
 |none=>simp only[hT]at h;exact h.elim
 |some T=>
  simp only[hT]at h⊢
  by_cases hd:isPtrD T.desc=true
  ·simp only[hd,if_true]at h⊢
   have hdd:∃e,T.desc=.pointer e:=by cases hq:T.desc<;>simp[hq,isPtrD]at hd;exact⟨_,rfl⟩
   obtain⟨e,hdd⟩:=hdd
   obtain⟨i,_,hu,_⟩:=ty_spec hT
   rw[hdd]at hu
   cases hc:ptrEq x y with
   |none=>simp only[hc,ptrRes]at h;cases op<;>exact h.elim
   |some c=>
    simp only[hc]at h⊢
    obtain⟨h1,h2,h3⟩:=ptrEq_sound (P:=P) hu hx hy hc
    refine⟨h1,?_⟩
    cases op<;>simp only[ptrRes]at h⊢ <;>first
     |exact h.elim
     |exact⟨_,h2,by simp only[RepA,RepP]⟩
     |exact⟨_,h3,by simp only[RepA,RepP]⟩
  ·simp only[hd]at h;exact h.elim
theorem binA_sound {P:Program} {op:BinOp} {t:TypeId} {x y:AV} {g:Gh} {w:World} {u v:Value}(xo yo:Operand)(h:(binA P op t x y).1)
  (hx:RepA g w x u) (hy:RepA g w y v):
  ∃r,(do eqGuard op t xo yo u v;binOp op t u v:Sem Value).run P w=.ok r w∧RepA g w (binA P op t x y).2 r:=by
 suffices H:(u≠ .nilIface∧∀cs,u≠ .agg cs)∧∃r,(binOp op t u v).run P w=.ok r w∧RepA g w (binA P op t x y).2 r by
  obtain⟨⟨h1,h2⟩,r,hr,hR⟩:=H
  exact⟨r,by rw[Sem.run_bind,eqGuard_none h1 h2];exact hr,hR⟩
 unfold binA at h⊢
 split at h
 ·simp only[RepA,RepP]at hx hy
  subst hx;subst hy
  exact⟨⟨by simp,by simp⟩,binII_sound op t _ _ _ _ h⟩
 ·simp only[RepA,RepP]at hx hy
  subst hx;subst hy
  refine⟨⟨by simp,by simp⟩,?_⟩
  obtain⟨r,hr,hR⟩:=strBin_sound (fr:=g.fr) (w:=w) (P:=P) op t _ _ h
  exact⟨r,hr,by simp only[RepA];exact hR⟩
 ·simp only[RepA,RepP]at hx hy
  subst hx;subst hy
  exact⟨⟨by simp,by simp⟩,binBB_sound op t _ _ h⟩
 ·exact binPP_sound h hx hy
end Go.AM
end
