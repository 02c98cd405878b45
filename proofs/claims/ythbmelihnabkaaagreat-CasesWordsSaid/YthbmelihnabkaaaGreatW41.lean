/- A part of the proof of this seat's statements, by an abstract machine: what each operation does to values, and what the law's functions compute. Conditions: as each law says. -/
import Derived.Test.YthbmelihnabkaaaGreatW40
import Derived.Test.YthbmelihnabkaaaGreatW16
import Derived.ScopeJumps
import Derived.Test.YthbmelihnabkaaaGreatW35
import Derived.Laws.AppendOwn
import Derived.Lib.LazyBuf
import Derived.Below
section
namespace Go.Proofs.YthbmelihnabkaaaGreat
open Go.AM
set_option maxHeartbeats 1000000
set_option maxRecDepth 100000
def zA(r:Int):Int:=
 if r=962 then 931 else if 97≤r∧r≤122 then r-32 else if r=230 then r-32 else if r=240 then r-32 else if r=248 then r-32 else if r=254 then r-32
 else if 945≤r∧r≤969 then r-32 else if 1072≤r∧r≤1103 then r-32 else if 1104≤r∧r≤1119 then r-80 else r
def zG(r:Int):Int:=
 if r=930 then r else if 65≤r∧r≤90 then r+32 else if r=198 then r+32 else if r=208 then r+32 else if r=216 then r+32 else if r=222 then r+32
 else if 913≤r∧r≤937 then r+32 else if 1040≤r∧r≤1071 then r+32 else if 1024≤r∧r≤1039 then r+80 else r
theorem va {r:Int}(h:zu r):zu (zA r):=by
 unfold zu at*;unfold zA;repeat' split
 all_goals omega
theorem yQ {r:Int}(h:zu r):zu (zG r):=by
 unfold zu at*;unfold zG;repeat' split
 all_goals omega
theorem zd0(r:Int):zA (zG r)=zA r:=by
 by_cases h:zG r=r
 ·rw[h]
 ·have h1:(65≤r∧r≤90∧zG r=r+32)∨(r=198∧zG r=r+32)∨(r=208∧zG r=r+32)∨(r=216∧zG r=r+32)∨(r=222∧zG r=r+32)∨(913≤r∧r≤937∧r≠930∧zG r=r+32)∨(1040≤r∧r≤1071∧zG r=r+32)∨(1024≤r∧r≤1039∧zG r=r+80):=by
   revert h
   unfold zG;repeat' split
   all_goals intro h
   all_goals omega
  have h2:zA r=r:=by unfold zA;repeat' split;all_goals omega
  rw[h2]
  generalize zG r=s at h1
  unfold zA;repeat' split
  all_goals omega
attribute [local irreducible] za
def Q5(f:Int→Int)(l:List Int):List Int:=qN za ((ZO za l).map f)
end Go.Proofs.YthbmelihnabkaaaGreat
end
section
namespace Go.AM
def Sem [Gi](P:Program)(c:Code)(Q:Exit→St→Prop)(S:St):Prop:=∀(E:Ent) (g:Gh) (a:Act) (w:World),SR E S g a w→c.wp P (post E Q) a w
theorem Sem.of [Gi] {P:Program}(D:List Nat) {c:Code} {Q:Exit→St→Prop} {S:St}(hm:P.follows .mixedOrders=true)(h:wpA P D c Q S)(hok:Zp D c=true:=by rfl):Sem P c Q S:=
 fun _ _ _ _ hS=>Z6 hm c hok h hS
def zjF [Gi](P:Program)(y:Code)(Q:Exit→St→Prop):Exit→St→Prop:=fun e S=>match e with|.normal=>Sem P y Q S|e=>Q e S
@[go_sem] theorem zlV [Gi] {P : Program} {y : Code} {Q : Exit → St → Prop} {S : St} : zjF P y Q .normal S = Sem P y Q S := _root_.id rfl
@[go_sem] theorem zn8 [Gi] {P : Program} {y : Code} {Q : Exit → St → Prop} {S : St} : zjF P y Q .ret S = Q .ret S := _root_.id rfl
theorem Sem.seq [Gi] {P:Program} {x y:Code} {Q:Exit→St→Prop} {S:St}(h:Sem P x (zjF P y Q) S):Sem P (.seq x y) Q S:=by
 intro E g a w hS
 refine wp_seq (wp_mono (h E g a w hS) ?_)
 rintro e a' w' ⟨S',g',hq,hs⟩
 cases e with
 |normal=>exact hq E g' a' w' hs
 |_=>exact⟨S',g',hq,hs⟩
theorem Sem.Zm [Gi] {P:Program}(D:List Nat) {x y:Code} {Q:Exit→St→Prop} {S:St}(hm:P.follows .mixedOrders=true)(h:wpA P D x (zjF P y Q) S)(hok:Zp D x=true:=by rfl):Sem P (.seq x y) Q S:=Sem.seq (Sem.of D hm h hok)
theorem Sem.mono [Gi] {P:Program} {c:Code} {Q Q':Exit→St→Prop} {S:St}(h:Sem P c Q S)(hq:∀e S',Q e S'→Q' e S'):Sem P c Q' S:=
 fun E g a w hS=>wp_mono (h E g a w hS) fun _ _ _ ⟨S',g',k,hs⟩=>⟨S',g',hq _ _ k,hs⟩
theorem Sem.label [Gi] {P:Program} {l:Nat} {y:Code} {Q:Exit→St→Prop} {S:St}(h:Sem P y Q S):Sem P (.seq (.label l) y) Q S:=by
 intro E g a w hS
 exact wp_seq (wp_label (h E g a w hS))
theorem Sem.goto [Gi] {P:Program} {l:Nat} {Q:Exit→St→Prop} {S:St}(h:Q (.goto l) S):Sem P (.goto l) Q S:=fun _ g _ _ hS=>wp_goto ⟨S,g,h,hS⟩
theorem Sem.skip [Gi] {P:Program} {Q:Exit→St→Prop} {S:St}(h:Q .normal S):Sem P .skip Q S:=fun _ g _ _ hS=>wp_skip ⟨S,g,h,hS⟩
theorem Sem.cond [Gi] {P:Program} {c:Operand} {x y:Code} {Q:Exit→St→Prop} {S:St}(b:Bool)(hc:S.ev c=.p (.bool b))(h:Sem P (if b then x else y) Q S):Sem P (.cond c x y) Q S:=by
 intro E g a w hS
 have hr:=hS.ev c
 rw[hc]at hr
 simp only[zb,zl]at hr
 cases b with
 |true=>exact wp_cond_true hr (h E g a w hS)
 |false=>exact wp_cond_false hr (h E g a w hS)
theorem Sem.clean [Gi] {P:Program} {c:Code} {Q:Exit→St→Prop} {S:St}(h:Sem P c Q {S with ts:=[]}):Sem P c Q S:=fun E g a w hS=>h E g a w hS.clean
theorem Sem.le [Gi] {P:Program} {c:Code} {Q:Exit→St→Prop} {S S1:St}(h:Sem P c Q S1)(hl:LeS S S1):Sem P c Q S:=fun E _ a w hS=>by
 obtain⟨g',h'⟩:=hS.le hl
 exact h E g' a w h'
def zor(Q:Exit→St→Prop):Exit→St→Prop:=fun e S=>match e with|.goto _=>False|e=>Q e S
@[go_sem] theorem zoy {Q : Exit → St → Prop} {S : St} : zor Q .ret S = Q .ret S := _root_.id rfl
theorem Sem.scope [Gi] {P:Program} {c:Code} {Q:Exit→St→Prop} {S:St}(h:Sem P c (zor Q) S):Sem P (.scope c) Q S:=by
 intro E g a w hS
 refine wp_scope_straight (wp_mono (h E g a w hS) ?_)
 rintro e a' w' ⟨S',g',hq,hs⟩
 cases e with
 |goto l=>exact hq.elim
 |_=>exact⟨S',g',hq,hs⟩
def JT {ι:Type}(l:Nat)(inv:ι→Prop)(st:ι→St)(Q:Exit→St→Prop):Exit→St→Prop:=fun e S=>match e with|.goto l'=>l'=l∧∃j,inv j∧LeS S (st j)|e=>Q e S
@[go_sem] theorem znD {ι : Type} {l : Nat} {inv : ι → Prop} {st : ι → St} {Q : Exit → St → Prop} {S : St} : JT l inv st Q .ret S = Q .ret S := _root_.id rfl
theorem Sem.jumps [Gi] {P:Program} {c rest:Code} {Q:Exit→St→Prop} {S:St} {ι:Type}(l:Nat)(inv:ι→Prop)(st:ι→St)(m:ι→Nat)(hf:findLabel c l=some rest)
  (first:Sem P c (JT l inv st Q) S) (pass:∀i,inv i→Sem P rest (JT l (fun j=>inv j∧m j<m i) st Q) (st i)):Sem P (.scope c) Q S:=by
 intro E g a w hS
 let J:Act→World→Prop:=fun a w=>∃i g,inv i∧SR E (st i) g a w
 let M:Act→World→Nat→Prop:=fun a w n=>∃i g,inv i∧SR E (st i) g a w∧m i≤n
 have hM:∀a w,∃n,(∃k,M a w k)→M a w n∧∀k,M a w k→n≤k:=by
  intro a w
  by_cases h:∃k,M a w k
  ·obtain⟨k,hk⟩:=h
   induction k using Nat.strongRecOn with
   |_ k ih=>
    by_cases h2:∃k',k'<k∧M a w k'
    ·obtain⟨k',h3,h4⟩:=h2
     exact ih k' h3 h4
    ·refine⟨k,fun _=>⟨hk,fun k' hk'=>?_⟩⟩
     by_cases h3:k'<k
     ·exact absurd ⟨k',h3,hk'⟩ h2
     ·omega
  ·exact⟨0,fun h'=>absurd h' h⟩
 let μ:Act→World→Nat:=fun a w=>Classical.choose (hM a w)
 have hμ:∀a w,(∃k,M a w k)→M a w (μ a w)∧∀k,M a w k→μ a w≤k:=fun a w=>Classical.choose_spec (hM a w)
 refine wp_scope_jumps l J μ hf (wp_mono (first E g a w hS) ?_) ?_
 ·rintro e a' w' ⟨S',g',hq,hs⟩
  cases e with
  |goto l'=>
   obtain⟨rfl,j,hj,hl⟩:=hq
   obtain⟨g2,h2⟩:=hs.le hl
   exact⟨rfl,j,g2,hj,h2⟩
  |_=>exact⟨S',g',hq,hs⟩
 ·rintro a w ⟨i0,g0,hi0,hs0⟩
  obtain⟨⟨i,g1,hi,hs1,hle⟩,_⟩:=hμ a w ⟨m i0,i0,g0,hi0,hs0,Nat.le_refl _⟩
  refine wp_mono (pass i hi E g1 a w hs1) ?_
  rintro e a' w' ⟨S',g',hq,hs⟩
  cases e with
  |goto l'=>
   obtain⟨rfl,j,⟨hj,hlt⟩,hl⟩:=hq
   obtain⟨g2,h2⟩:=hs.le hl
   refine⟨rfl,⟨j,g2,hj,h2⟩,?_⟩
   have:=(hμ a' w' ⟨m j,j,g2,hj,h2,Nat.le_refl _⟩).2 (m j) ⟨j,g2,hj,h2,Nat.le_refl _⟩
   omega
  |_=>exact⟨S',g',hq,hs⟩
theorem uG [Gi] {P:Program} {f:FuncId} {fn:Func} {c:Code} {ts:List (Nat×Option TypeId)}(nv:Nat)(ex:List Nat)(hf:P.funcs[f]?=some fn)(hb:fn.body=some c)(rm:List Nat)
  (hres:uf fn.results.toList=some ts) {pin:List Tok} {args:List AV} {rs:List (Tok×List AV)} {R:AV→List (Tok×List AV)→Prop} (hnv:args.length≤nv) (hn:args.length≤fn.ntmps)
  (h:Sem P c (vw P pin ts R) {n:=fn.ntmps,nv:=nv,vs:=wE 0 args,ts:=[],rs:=rs,pin:=pin,ex:=ex,rm:=rm}):CR P f pin args rs R:=by
 intro w g vs hargs hG
 have hlen:vs.length=args.length:=by
  have h0:args.length≤nv:=hnv
  clear h0 h hnv hn
  induction args generalizing vs with
  |nil=>simp only[zp]at hargs;subst hargs;rfl
  |cons x xs ih=>simp only[zp]at hargs;obtain⟨v,vs',rfl,_,h2⟩:=hargs;simp[ih vs' h2]
 let E:Ent:=⟨w,g,hG.gl⟩
 have hS:SR E {n:=fn.ntmps,nv:=nv,vs:=wE 0 args,ts:=[],rs:=rs,pin:=pin,ex:=ex,rm:=rm} g {tmps:=vs.toArray++Array.replicate (fn.ntmps-vs.toArray.size) undef,defers:=[]} w:=by
  refine⟨by simp;omega,rfl,fun t=>?_,hG.roots,hG.ur,hG.ut,fun b hb=>⟨hG.own b hb,.inr hb⟩,fun b _=>⟨rfl,rfl⟩,Ext.refl _ _,⟨rfl,rfl,rfl⟩,Nat.le_refl _,hG.frb,fun b t hk _=>⟨hk,fun _ hn=>hn⟩⟩
  unfold St.get
  split
  ·simp only[wo,Nat.zero_le,if_true,Nat.sub_zero]
   cases hx:args[t]? with
   |none=>simp only[qt,zb]
   |some x=>
    simp only[qt]
    obtain⟨v,hv,hr⟩:=hargs.get hx
    have hvl:=(List.getElem?_eq_some_iff.1 hv).1
    have:(vs.toArray++Array.replicate (fn.ntmps-vs.toArray.size) undef).getD t undef=v:=by
     simp[Array.getD_eq_getD_getElem?,Array.getElem?_append,hvl]
     have:=(List.getElem?_eq_some_iff.1 hv).2
     exact this
    rw[this];exact hr
  ·simp only[look,qt,zb]
 refine calls_of_wp hf hb (wp_mono (h E g _ w hS) ?_)
 rintro e a' w' ⟨S',g',hq,hs⟩
 have fin:WG P pin ts R S'→a'.defers=[]∧∃v,(results fn a'.tmps).run P w'=.ok v w'∧∃v' x rs' g'',Ending.returned v=.returned v'∧R x rs'∧zb g'' w' x v'∧GS g'' w' rs'∧Aft g w g'' w' pin:=fun h=>⟨hs.defers,Vx hres hs h⟩
 cases e with
 |normal=>exact fin hq
 |ret=>exact fin hq
 |_=>exact hq.elim
end Go.AM
namespace Go.AM
theorem zfE [Gi] {P:Program} {y:Code} {ι:Type} {l:Nat} {inv:ι→Prop} {st:ι→St} {Q:Exit→St→Prop} {S:St}(j:ι)(h1:inv j)(h2:LeS S (st j)):zjF P y (JT l inv st Q) (.goto l) S:=⟨rfl,j,h1,h2⟩
theorem Sem.zm1 [Gi] {P:Program} {c rest:Code} {Q:Exit→St→Prop} {S:St} {ι:Type}(l:Nat)(inv:ι→Prop)(st:ι→St)(m:ι→Nat)(hf:findLabel c l=some (.seq .skip rest))
  (first:(∀i,inv i→Sem P rest (JT l inv st Q) (st i))→Sem P c (JT l inv st Q) S) (pass:∀i,inv i→Sem P rest (JT l (fun j=>inv j∧m j<m i) st Q) (st i)):Sem P (.scope c) Q S:=
 Sem.jumps l inv st m hf (first fun i hi=>(pass i hi).mono fun e S' h=>by
  cases e with
  |goto l'=>
   obtain⟨h1,j,h2,h3⟩:=h
   exact⟨h1,j,h2.1,h3⟩
  |_=>exact h) (fun i hi=>Sem.seq (Sem.skip (pass i hi)))
end Go.AM
end
section
namespace Go.Proofs.YthbmelihnabkaaaGreat
open Go.RowKit Go.Lib
set_option maxRecDepth 100000
set_option maxHeartbeats 4000000
end Go.Proofs.YthbmelihnabkaaaGreat
end
