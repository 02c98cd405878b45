/- A part of this seat's proofs, by an abstract machine. Conditions: each law's. -/
import Derived.Test.YtfjdbbpimklecaaGreatDoorT28
import Derived.RangeFuncRecord
import Derived.Test.YtfjdbbpimklecaaGreatDoorT27
import Derived.Test.YtfjdbbpimklecaaGreatDoorT19
import Derived.Test.YtfjdbbpimklecaaGreatDoorT25
import Derived.Test.YtfjdbbpimklecaaGreatDoorChecked
import Derived.KernelRfl
import Derived.WalkKit
import Derived.Shelf.Spec.SlicesInsert
import Derived.Lib.AppendZerosOnto
import Derived.Laws.NewBlocks
set_option maxHeartbeats 4000000
set_option maxRecDepth 100000
namespace Go.AM
section
structure zqP(own:Nat→Prop)(A B:World):Prop where
 size:A.heap.size≤B.heap.size
 same:∀b,b<A.heap.size→¬own b→B.heap[b]?=A.heap[b]?
 out:B.os=A.os∧B.tape=A.tape∧B.output=A.output
def Obj.bare:Obj→Bool
 |.loop _=>true
 |.deferred _=>true
 |_=>false
theorem wQ {w:World} {b:Nat} {o:Obj}(h:w.heap[b]?=some o)(ho:Obj.bare o=true):(∀k,w.cell? ⟨b,k,none⟩=none)∧QM w b=none:=by
 refine⟨fun k=>?_,?_⟩
 ·unfold World.cell?
  cases o<;>simp[Obj.bare]at ho<;>simp[h]
 ·unfold QM
  cases o<;>simp[Obj.bare]at ho<;>simp[h]
section
variable {g g':Gh} {w w':World}
structure KV(g:Gh)(w:World)(g':Gh)(w':World)(pins:List Tok):Prop where
 ext:Ext g.fr w g'.fr w'
 kr:∀b t,t∈pins→g.K b=.root t→g'.K b=.root t
theorem KV.wx {pins:List Tok} {l:Nat} {o o':Obj}(hl:w.heap[l]?=some o)(ho:Obj.bare o=true)(ho':Obj.bare o'=true):KV g w g (w.putObj l o') pins:=by
 refine⟨fun c k hk=>⟨hk,?_⟩,fun _ _ _ hk=>hk⟩
 have h2:(w.putObj l o').heap[l]?=some o':=World.putObj_heap_same (Array.getElem?_eq_some_iff.1 hl).1
 by_cases e:c=l
 ·subst e
  obtain⟨a1,a2⟩:=wQ hl ho
  obtain⟨b1,b2⟩:=wQ h2 ho'
  exact⟨by rw[a1,b1],by rw[a2,b2]⟩
 ·exact zQ (World.putObj_heap_other e)
def yE(pins:List Tok):AV→AV
 |.p x=>.p x
 |.lp t o=>if pins.contains t then .lp t o else .zY
 |_=>.zY
theorem KV.rep {pins:List Tok}(k:KV g w g' w' pins) {y:AV} {v:Value}(r:zb g w y v):zb g' w' (yE pins y) v:=by
 cases y with
 |p x=>simp only[yE,zb]at r⊢;exact r.ext k.ext
 |lp t o=>
  simp only[yE]
  split
  ·rename_i ht
   simp only[zb]at r⊢
   obtain⟨b,hk,e⟩:=r
   exact⟨b,k.kr b t (by simpa using ht) hk,e⟩
  ·simp only[zb]
 |_=>simp only[yE,zb]
end
section
variable [Gi] {E:Ent} {S S':St} {g g':Gh} {a a':Act} {w w':World}
theorem SR.zjh(h:SR E S g a w)(pin':List Tok):SR ⟨w,g,h.gl⟩ {S with pin:=pin'} g a w:=
 ⟨h.size,h.defers,h.slots,h.roots,h.ur,h.ut,fun b hb=>⟨(h.own b hb).1,.inr hb⟩,fun _ _=>⟨rfl,rfl⟩,Ext.refl _ _,⟨rfl,rfl,rfl⟩,Nat.le_refl _,h.frb,fun _ _ hk _=>⟨hk,fun _ hn=>hn⟩⟩
theorem SR.znC(h:SR E S g a w) {b:Nat}(hb:¬E.may b):¬(Ent.mk w g h.gl).may b:=by
 have hlt:=h.yG hb
 rintro(h1|h1)
 ·have:w.heap.size≤b:=h1;omega
 ·exact hb (h.own b h1).2
theorem SR.comp(h:SR E S g a w)(h':SR ⟨w,g,h.gl⟩ S' g' a' w')(hp:∀t,t∈S.pin→t∈S'.pin):SR E {S' with pin:=S.pin} g' a' w':=by
 refine⟨h'.size,h'.defers,h'.slots,h'.roots,h'.ur,h'.ut,fun b hb=>⟨(h'.own b hb).1,?_⟩,fun b hb=>?_,h.ext.trans h'.ext,?_,Nat.le_trans h.mono h'.mono,h'.frb,fun b t hk ht=>?_⟩
 ·rcases(h'.own b hb).2 with h1|h1
  ·exact .inl (Nat.le_trans h.mono h1)
  ·exact(h.own b h1).2
 ·obtain⟨e1,e2⟩:=h'.frame b (h.znC hb)
  obtain⟨f1,f2⟩:=h.frame b hb
  exact⟨e1.trans f1,e2.trans f2⟩
 ·exact⟨h'.out.1.trans h.out.1,h'.out.2.1.trans h.out.2.1,h'.out.2.2.trans h.out.2.2⟩
 ·obtain⟨k1,k2⟩:=h.pins b t hk ht
  obtain⟨k3,k4⟩:=h'.pins b t k1 (hp t ht)
  exact⟨k3,fun n hn=>k4 n (k2 n hn)⟩
theorem SR.stays(h:SR E S g a w)(h':SR ⟨w,g,h.gl⟩ S' g' a' w') {b:Nat}(hb:b<w.heap.size)(hk:g.K b=.prot):w'.heap[b]?=w.heap[b]?∧g'.fr b=g.fr b∧g'.K b=.prot:=by
 have hm:¬(Ent.mk w g h.gl).may b:=by
  rintro(h1|h1)
  ·have:w.heap.size≤b:=h1;omega
  ·exact h1 hk
 obtain⟨e1,e2⟩:=h'.frame b hm
 exact⟨e1,e2,Classical.byContradiction fun e=>hm (h'.own b e).2⟩
theorem SR.wx(h:SR E S g a w) {l:Nat} {o o':Obj}(hl:w.heap[l]?=some o)(ho:Obj.bare o=true)(ho':Obj.bare o'=true)(hk:g.K l=.prot)(hm:E.may l):SR E S g a (w.putObj l o'):=by
 have hlt:l<w.heap.size:=(Array.getElem?_eq_some_iff.1 hl).1
 have hne:∀c t,g.K c=.root t∨g.K c=.tail t→c≠l:=fun c t hc e=>by subst e;rw[hk]at hc;simp at hc
 have h2:(w.putObj l o').heap[l]?=some o':=World.putObj_heap_same hlt
 refine h.keep (fr':=g.fr) ⟨fun c o ho1=>⟨ho1,?_⟩,fun c t _ hc=>⟨hc,fun _ hb=>Blk.of_heap (World.putObj_heap_other (hne c t (.inl hc))) hb⟩,fun c t _ hc=>⟨hc,rfl,World.putObj_heap_other (hne c t (.inr hc))⟩⟩
  (fun c t hc=>⟨World.putObj_heap_other (hne c t (.inl hc)),rfl⟩) (fun c hc=>⟨World.putObj_heap_other (fun e=>hc (e▸hm)),rfl⟩) ⟨rfl,rfl,rfl⟩ (by simp) (fun c hc=>h.frb c (by simpa using hc))
 by_cases e:c=l
 ·subst e
  obtain⟨a1,a2⟩:=wQ hl ho
  obtain⟨b1,b2⟩:=wQ h2 ho'
  exact⟨by rw[a1,b1],by rw[a2,b2]⟩
 ·exact zQ (World.putObj_heap_other e)
theorem KV.of(h:SR E S g a w) {pins:List Tok}(h':SR ⟨w,g,h.gl⟩ S' g' a' w')(hp:S'.pin=pins):KV g w g' w' pins:=⟨h'.ext,fun b t ht hk=>(h'.pins b t hk (by rw[hp];exact ht)).1⟩
def xH(S:St)(pins:List Tok)(rs:List (Tok×List AV)):St:={S with vs:=S.vs.map (fun x=>(x.1,yE pins x.2)),ts:=[],rs:=rs}
theorem SR.back(h:SR E S g a w) {pins:List Tok}(h':SR E S' g' a' w')(k:KV g w g' w' pins)(hp:S'.pin=S.pin):SR E (xH S pins S'.rs) g' a w':=by
 refine⟨h.size,h.defers,fun t=>?_,h'.roots,h'.ur,h'.ut,h'.own,h'.frame,h'.ext,h'.out,h'.mono,h'.frb,fun b t hk ht=>h'.pins b t hk (by rw[hp];exact ht)⟩
 have hk:(xH S pins S'.rs).kept t=S.kept t:=rfl
 have hs:=h.slots t
 unfold St.get at hs⊢
 rw[hk]
 split
 ·rename_i hc
  rw[if_pos hc]at hs
  show zb g' w' (qt (look (S.vs.map fun x=>(x.1,yE pins x.2)) t)) _
  rw[vG (yE pins)]
  cases hx:look S.vs t with
  |none=>simp only[Option.map_none,qt,zb]
  |some y=>
   rw[hx]at hs
   simp only[Option.map_some,qt]at hs⊢
   exact k.rep hs
 ·simp only[xH,look,qt,zb]
end
def mark(D:Nat):Deferred:={target:=.collected D,args:= #[]}
def zed [Gi](E:Ent)(Q:Exit→St→Prop):Exit→Act→World→Prop:=fun e a w=>
 post E Q e a w∨∃D b S g,a=j5 [mark D] b∧Q e S∧SR E S g b w∧g.K D=.prot∧w.heap[D]?=some (.deferred (some []))∧E.w0.heap.size≤D
def Ql [Gi](P:Program)(c:Code)(Q:Exit→St→Prop)(S:St):Prop:=∀(E:Ent) (g:Gh) (a:Act) (w:World),SR E S g a w→c.wpIn Fence.wide 0 P (zed E Q) a w
def zlA [Gi](P:Program)(c:Code)(Q:Exit→St→Prop)(S:St):Prop:=
 ∀(E:Ent) (g:Gh) (a:Act) (w:World) (D:Nat),SR E S g a w→g.K D=.prot→w.heap[D]?=some (.deferred (some []))→E.w0.heap.size≤D→c.wpIn Fence.wide 0 P (zed E Q) (j5 [mark D] a) w
section
variable [Gi] {P:Program} {Q:Exit→St→Prop} {S:St}
theorem Ql.Qb {D:List Nat}(hm:P.follows .mixedOrders=true) {c:Code}(hc:Zt D c=true)(h:wpA P D c Q S):Ql P c Q S:=
 fun _ _ _ _ hS=>wpIn_mono (wpIn_wide.2 (ZJ hm c hc h hS)) fun _ _ _ k=>.inl k
def zfS(P:Program)(y:Code)(Q:Exit→St→Prop):Exit→St→Prop
 |.normal,S'=>Ql P y Q S'
 |e,S'=>Q e S'
@[go_sem] theorem zmF {y : Code} {S' : St} : zfS P y Q .normal S' = Ql P y Q S' := rfl
@[go_sem] theorem zps {y : Code} {S' : St} : zfS P y Q .ret S' = Q .ret S' := rfl
theorem Ql.seq {D:List Nat}(hm:P.follows .mixedOrders=true) {x y:Code}(hc:Zt D x=true)(h:wpA P D x (zfS P y Q) S):Ql P (.seq x y) Q S:=by
 intro E g a w hS
 refine wpIn_seq (wpIn_mono (wpIn_wide.2 (ZJ hm x hc h hS)) ?_)
 rintro e a' w' ⟨S',g',hq,hs⟩
 cases e with
 |normal=>exact hq E g' a' w' hs
 |_=>exact .inl ⟨S',g',hq,hs⟩
def zle [Gi](P:Program)(b c:Code)(Q:Exit→St→Prop)(S:St):Prop:=∀(E:Ent) (g:Gh) (a:Act) (w:World),SR E S g a w→b.wpIn Fence.wide 0 P (Exit.then (c.wpIn Fence.wide 0 P (zed E Q)) (zed E Q)) a w
def zk0(P:Program)(b c:Code)(Q:Exit→St→Prop):Exit→St→Prop
 |.normal,S'=>zle P b c Q S'
 |e,S'=>Q e S'
@[go_sem] theorem zlr {b c : Code} {S' : St} : zk0 P b c Q .normal S' = zle P b c Q S' := rfl
@[go_sem] theorem zpj {b c : Code} {S' : St} : zk0 P b c Q .ret S' = Q .ret S' := rfl
theorem Ql.zqW {D:List Nat}(hm:P.follows .mixedOrders=true) {x b c:Code}(hc:Zt D x=true)(h:wpA P D x (zk0 P b c Q) S):Ql P (.seq (.seq x b) c) Q S:=by
 intro E g a w hS
 refine wpIn_seq (wpIn_seq (wpIn_mono (wpIn_wide.2 (ZJ hm x hc h hS)) ?_))
 rintro e a' w' ⟨S',g',hq,hs⟩
 cases e with
 |normal=>exact hq E g' a' w' hs
 |_=>exact .inl ⟨S',g',hq,hs⟩
def zqe(pin:List Tok)(Q:Exit→St→Prop):Exit→St→Prop:=fun e S'=>S'.pin=pin∧Q e S'
theorem zlA.Qb {D:List Nat} {c:Code}(hc:jM c=true)(h:wpA P D c (zqe S.pin Q) S):zlA P c Q S:=by
 intro E g a w D hS hk hD hlt
 have hdlt:D<w.heap.size:=(Array.getElem?_eq_some_iff.1 hD).1
 refine wpIn_mono (kq (r:=none) (ds:=[mark D]) c hc h (hS.zjh S.pin)) ?_
 rintro e _ w' ⟨b,rfl,S',g',⟨hp,hq⟩,hs⟩
 obtain⟨e1,_,e3⟩:=hS.stays hs hdlt hk
 have:=hS.comp hs (fun t ht=>by rw[hp];exact ht)
 rw[←hp]at this
 exact .inr ⟨D,b,S',g',rfl,hq,this,e3,e1.trans hD,hlt⟩
theorem uA {f:FuncId} {fn:Func} {c:Code} {ts:List (Nat×Option TypeId)}(nv:Nat)(ex:List Nat)(hf:P.funcs[f]?=some fn)(hb:fn.body=some c)
  (hres:uV fn.results.toList=some ts) {pin:List Tok} {args:List AV} {rs:List (Tok×List AV)} {R:AV→List (Tok×List AV)→Prop} (hnv:args.length≤nv) (hn:args.length≤fn.ntmps)
  (h:Ql P c (Wk P pin ts R) {n:=fn.ntmps,nv:=nv,vs:=ud 0 args,ts:=[],rs:=rs,pin:=pin,ex:=ex}):CR P f pin args rs R:=by
 intro w g vs hargs hG
 have hlen:vs.length=args.length:=by
  have h0:args.length≤nv:=hnv
  clear h0 h hnv hn
  induction args generalizing vs with
  |nil=>simp only[zo]at hargs;subst hargs;rfl
  |cons x xs ih=>simp only[zo]at hargs;obtain⟨v,vs',rfl,_,h2⟩:=hargs;simp[ih vs' h2]
 let E:Ent:=⟨w,g,hG.gl⟩
 have hS:SR E {n:=fn.ntmps,nv:=nv,vs:=ud 0 args,ts:=[],rs:=rs,pin:=pin,ex:=ex} g {tmps:=vs.toArray++Array.replicate (fn.ntmps-vs.toArray.size) undef,defers:=[]} w:=by
  refine⟨by simp;omega,rfl,fun t=>?_,hG.roots,hG.ur,hG.ut,fun b hb=>⟨hG.own b hb,.inr hb⟩,fun b _=>⟨rfl,rfl⟩,Ext.refl _ _,⟨rfl,rfl,rfl⟩,Nat.le_refl _,hG.frb,fun b t hk _=>⟨hk,fun _ hn=>hn⟩⟩
  unfold St.get
  split
  ·simp only[xJ,Nat.zero_le,if_true,Nat.sub_zero]
   cases hx:args[t]? with
   |none=>simp only[qt,zb]
   |some x=>
    simp only[qt]
    obtain⟨v,hv,hr⟩:=hargs.get hx
    have hvl:=(List.getElem?_eq_some_iff.1 hv).1
    have:(vs.toArray++Array.replicate (fn.ntmps-vs.toArray.size) undef).getD t undef=v:=by
     simp[Array.getD_eq_getD_getElem?,Array.getElem?_append,hvl]
     have:=(List.getElem?_eq_some_iff.1 hv).2
     exact this
    rw[this];exact hr
  ·simp only[look,qt,zb]
 refine(callsIn_wide (n:=0)).1 (callsIn_of_wp_marks hf hb trivial (wpIn_mono (h E g _ w hS) ?_))
 rintro e a' w' hpost
 have fin:uT P pin ts R=uT P pin ts R:=rfl
 have ends:∀u,(u=Exit.normal∨u=Exit.ret)→zed E (Wk P pin ts R) u a' w'→bodyPostM Fence.wide 0 P fn (fun e w'=>∃v x rs' g',e=.returned v∧R x rs'∧zb g' w' x v∧GS g' w' rs'∧Aft g w g' w' pin) u a' w':=by
  rintro u hu (⟨S',g',hq,hs⟩|⟨D,b,S',g',rfl,hq,hs,hk,hD,hlt⟩)
  ·have hq':uT P pin ts R S':=by rcases hu with rfl|rfl<;>exact hq
   obtain⟨v,h1,h2⟩:=Vf hres hs hq'
   have:=hs.defers
   rcases hu with rfl|rfl<;>·simp only[bodyPostM,this,LeavesInM,LeavesIn];exact⟨v,h1,v,by obtain⟨v',x,rs',g'',e,r⟩:=h2;injection e with e;subst e;exact⟨x,rs',g'',rfl,r⟩⟩
  ·have hq':uT P pin ts R S':=by rcases hu with rfl|rfl<;>exact hq
   have hs2:=hs.wx (o':=.deferred none) hD rfl rfl hk (.inl hlt)
   obtain⟨v,h1,h2⟩:=Vf hres hs2 hq'
   have goal:LeavesInM Fence.wide 0 P fn b.tmps (fun e w'=>∃v x rs' g',e=.returned v∧R x rs'∧zb g' w' x v∧GS g' w' rs'∧Aft g w g' w' pin) [mark D] .returning w':=by
    refine⟨by simp,.inl ⟨D,_,rfl,run_takeDeferred hD,?_⟩⟩
    simp only[LeavesInM,LeavesIn]
    exact⟨v,h1,v,by obtain⟨v',x,rs',g'',e,r⟩:=h2;injection e with e;subst e;exact⟨x,rs',g'',rfl,r⟩⟩
   rcases hu with rfl|rfl<;>exact goal
 cases e with
 |normal=>exact ends _ (.inl rfl) hpost
 |ret=>exact ends _ (.inr rfl) hpost
 |panic ch=>rcases hpost with ⟨S',g',hq,_⟩|⟨_,_,S',g',_,hq,_⟩<;>exact hq.elim
 |exit i=>rcases hpost with ⟨S',g',hq,_⟩|⟨_,_,S',g',_,hq,_⟩<;>exact hq.elim
 |goto i=>rcases hpost with ⟨S',g',hq,_⟩|⟨_,_,S',g',_,hq,_⟩<;>exact hq.elim
 |outgrown=>rcases hpost with ⟨S',g',hq,_⟩|⟨_,_,S',g',_,hq,_⟩<;>exact hq.elim
end
def lst(S:St)(V:List (Nat×AV))(rs:List (Tok×List AV))(pin:List Tok):St:={S with vs:=V,ts:=[],rs:=rs,pin:=pin}
def zjM(S:St)(V:List (Nat×AV))(pins:List Tok)(I:Prop)(next:List (Tok×List AV))(Q:Exit→St→Prop):Exit→St→Prop
 |.normal,S2=>I∧LeR S2 (lst S [] next pins)
 |.ret,S2=>S2.pin=pins∧Q .ret (lst S V S2.rs S.pin)
 |_,_=>False
def zgt(pins:List Tok)(K:St→Prop):Exit→St→Prop
 |.normal,S1=>S1.pin=pins∧K S1
 |_,_=>False
@[go_sem] theorem zlp {S : St} {V : List (Nat × AV)} {pins : List Tok} {I : Prop} {next : List (Tok × List AV)} {Q : Exit → St → Prop} {S2 : St} : zjM S V pins I next Q .normal S2 = (I ∧ LeR S2 (lst S [] next pins)) := rfl
@[go_sem] theorem zn8 {S : St} {V : List (Nat × AV)} {pins : List Tok} {I : Prop} {next : List (Tok × List AV)} {Q : Exit → St → Prop} {S2 : St} : zjM S V pins I next Q .ret S2 = (S2.pin = pins ∧ Q .ret (lst S V S2.rs S.pin)) := rfl
@[go_sem] theorem zi5 {pins : List Tok} {K : St → Prop} {S1 : St} : zgt pins K .normal S1 = (S1.pin = pins ∧ K S1) := rfl
theorem St.znF {S1:St} {p q:List Tok}(h:S1.pin=q):({({S1 with pin:=p}:St)with pin:=q}:St)=S1:=by cases S1;cases h;rfl
def YJ [Gi](P:Program)(E:Ent)(l:Nat)(pins:List Tok)(Uy:List Value)(S:St)(R:List (Tok×List AV)→Prop):Prop:=
 ∀g a w,SR E S g a w→YieldAt Fence.wide 0 P l Uy.toArray w fun e w'=>e=.returned (.bool true)∧∃S' g' a' gl,SR ⟨w,g,gl⟩ S' g' a' w'∧S'.pin=pins∧R S'.rs
def zV [Gi](P:Program)(E:Ent)(c:Code)(Q:Exit→St→Prop)(S:St):Prop:=∀(g:Gh) (a:Act) (w:World),SR E S g a w→c.wp P (post E Q) a w
section
variable [Gi] {P:Program} {E:Ent} {Q:Exit→St→Prop} {S:St}
theorem zV.Qb {D:List Nat}(hm:P.follows .mixedOrders=true) {c:Code}(hc:Zt D c=true)(h:wpA P D c Q S):zV P E c Q S:=fun _ _ _ hS=>ZJ hm c hc h hS
def zdp(P:Program)(E:Ent)(y:Code)(Q:Exit→St→Prop):Exit→St→Prop
 |.normal,S'=>zV P E y Q S'
 |e,S'=>Q e S'
@[go_sem] theorem zmY {y : Code} {S' : St} : zdp P E y Q .normal S' = zV P E y Q S' := rfl
@[go_sem] theorem zpl {y : Code} {S' : St} : zdp P E y Q .ret S' = Q .ret S' := rfl
@[go_sem] theorem zoi {y : Code} {S' : St} {i : Nat} : zdp P E y Q (.exit i) S' = Q (.exit i) S' := rfl
theorem zV.seq {x y:Code}(h:zV P E x (zdp P E y Q) S):zV P E (.seq x y) Q S:=fun g a w hS=>by
 refine wp_seq (wp_mono (h g a w hS) ?_)
 rintro e a' w' ⟨S',g',hq,hs⟩
 cases e with
 |normal=>exact hq g' a' w' hs
 |_=>exact⟨S',g',hq,hs⟩
theorem zV.jI {D:List Nat}(hm:P.follows .mixedOrders=true) {x y:Code}(hc:Zt D x=true)(h:wpA P D x (zdp P E y Q) S):zV P E (.seq x y) Q S:=.seq (.Qb hm hc h)
theorem zV.block {id:Nat} {c:Code}(h:zV P E c (zhn id Q) S):zV P E (.block id c) Q S:=fun g a w hS=>by
 refine wp_block (wp_mono (h g a w hS) ?_)
 rintro e a' w' ⟨S',g',hq,hs⟩
 cases e with
 |exit i=>
  simp only[Exit.inBlock]
  simp only[zhn]at hq
  split
  ·rename_i hi;rw[if_pos hi]at hq;exact⟨S',g',hq,hs⟩
  ·rename_i hi;rw[if_neg hi]at hq;exact⟨S',g',hq,hs⟩
 |_=>exact⟨S',g',hq,hs⟩
end
def zf7 {ι:Type}(inv:ι→Prop)(st:ι→St)(m:ι→Nat)(i:ι)(Q:Exit→St→Prop):Exit→St→Prop
 |.normal,S'=>∃j,inv j∧LeR S' (st j)∧m j<m i
 |e,S'=>Q e S'
@[go_sem] theorem zoP {Q : Exit → St → Prop} {ι : Type} {inv : ι → Prop} {st : ι → St} {m : ι → Nat} {i : ι} {k : Nat} {S' : St} : zf7 inv st m i Q (.exit k) S' = Q (.exit k) S' := rfl
@[go_sem] theorem zpq {Q : Exit → St → Prop} {ι : Type} {inv : ι → Prop} {st : ι → St} {m : ι → Nat} {i : ι} {S' : St} : zf7 inv st m i Q .ret S' = Q .ret S' := rfl
theorem Ww {Q:Exit→St→Prop} {ι:Type} {inv:ι→Prop} {st:ι→St} {m:ι→Nat} {i:ι} {S':St}(j:ι)(h1:inv j)(h2:LeS S' (st j))(h3:m j<m i):zf7 inv st m i Q .normal S':=⟨j,h1,.inl h2,h3⟩
section
variable [Gi] {P:Program} {E:Ent} {Q:Exit→St→Prop} {S:St}
theorem zV.loop {c:Code} {ι:Type}(inv:ι→Prop)(st:ι→St)(m:ι→Nat)(i:ι)(hi:inv i)(h0:LeS S (st i))(h:∀i,inv i→zV P E c (zf7 inv st m i Q) (st i)):zV P E (.loop c) Q S:=fun g a w hS=>by
 obtain⟨g0,h0⟩:=hS.le h0
 refine J8 (fun i a w=>inv i∧∃g,SR E (st i) g a w) m (i₀:=i) ⟨hi,g0,h0⟩ ?_
 rintro i a w ⟨hi,g,hs⟩
 refine wp_mono (h i hi g a w hs) ?_
 rintro e a' w' ⟨S',g',hq,hs'⟩
 cases e with
 |normal=>
  obtain⟨j,hj,hl,hlt⟩:=hq
  obtain⟨g'',h''⟩:=hs'.leR hl
  exact⟨j,⟨hj,g'',h''⟩,hlt⟩
 |_=>exact⟨S',g',hq,hs'⟩
theorem zV.zi1 {c:Operand} {x y:Code}(hv:S.ev c=.p (.bool true))(h:zV P E x Q S):zV P E (.cond c x y) Q S:=fun g a w hS=>by
 have hr:=hS.ev c
 rw[hv]at hr
 simp only[zb,zl]at hr
 exact wp_cond_true hr (h g a w hS)
theorem zV.zf3 {c:Operand} {x y:Code}(hv:S.ev c=.p (.bool false))(h:zV P E y Q S):zV P E (.cond c x y) Q S:=fun g a w hS=>by
 have hr:=hS.ev c
 rw[hv]at hr
 simp only[zb,zl]at hr
 exact wp_cond_false hr (h g a w hS)
end
section
variable [Gi] {P:Program} {E:Ent} {Q:Exit→St→Prop} {S:St}
theorem zbQ {ops:Array Oper} {K:St→Prop} {Q':Exit→Act→World→Prop}:∀(l rest:List Oper) {S:St} {g:Gh} {a:Act} {w:World},l.all Zi=true→Zu P ops l S K→SR E S g a w→
  (∀S' g' a' w',K S'→SR E S' g' a' w'→wpListIn Fence.wide 0 P ops Q' rest a' w')→wpListIn Fence.wide 0 P ops Q' (l++rest) a w
 | [],rest,S,g,a,w,_,h,hS,hk=>hk _ _ _ _ h hS
 |o::l,rest,S,g,a,w,hd,h,hS,hk=>by
  simp only[List.all_cons,Bool.and_eq_true]at hd
  unfold Zu at h
  cases hc:qj ops S o with
  |none=>simp only[hc]at h
  |some c=>
   simp only[hc]at h
   have:=yH (P:=P) hS hc h (next:=fun a' w'=>∃S' g',Zu P ops l S' K∧SR E S' g' a' w') (Q:=fun _ _ _=>False) (fun S' g' a' w' hk hs=>⟨S',g',hk,hs⟩)
   have go:∀a' w',(∃S' g',Zu P ops l S' K∧SR E S' g' a' w')→wpListIn Fence.wide 0 P ops Q' (l++rest) a' w':=by
    rintro a' w' ⟨S',g',hk',hs⟩
    exact zbQ l rest hd.2 hk' hs hk
   rw[List.cons_append]
   unfold wpListIn
   split
   ·rename_i hw
    rw[if_pos hw]at this
    have h1:=zaR (r:=none) (n:=0) hd.1 (fun⟨_,_,h⟩=>h) this
    refine⟨h1.1,?_⟩
    have h2:=h1.2
    show o.uponIn Fence.wide 0 P a _ _ ((o.semAt (Qf none).round a.eval).run P w)
    generalize (o.semAt (Qf none).round a.eval).run P w=res at h2
    match res,h2 with
    |.ok (.value v) w',k=>exact go _ _ k
    |.ok .skip w',k=>exact go _ _ k
    |.ok (.defer d) w',k=>exact go _ _ k
    |.ok (.enter f args) w',k=>
     refine⟨k.1,CallsIn.mono k.2 fun e w'' k=>?_⟩
     cases e with
     |returned v=>exact go _ _ k
     |panicked c=>exact k.elim
     |outgrown=>obtain⟨_,_,k⟩:=k;exact k.elim
    |.ok (.row row args) w',k=>exact⟨k.1,RowsIn.mono k.2 fun v w'' k=>go _ _ k⟩
    |.ok (.round l' f t as1 b) w',k=>
     refine⟨k.1,RoundIn.mono k.2 fun e w'' k=>?_⟩
     cases e with
     |returned v=>exact go _ _ k
     |panicked c=>exact k.elim
     |outgrown=>obtain⟨_,_,k⟩:=k;exact k.elim
    |.halt (.panic v) w',k=>exact k.elim
   ·rename_i hw
    rw[if_neg hw]at this
    exact⟨fun _ _=>trivial,go _ _ this⟩
end
def zhx(pins:List Tok)(R:List (Tok×List AV)→Prop):Exit→St→Prop
 |.normal,S=>S.pin=pins∧R S.rs
 |.ret,S=>S.pin=pins∧R S.rs
 |_,_=>False
@[go_sem] theorem zm7 {pins : List Tok} {R : List (Tok × List AV) → Prop} {S : St} : zhx pins R .normal S = (S.pin = pins ∧ R S.rs) := rfl
@[go_sem] theorem zqG {pins : List Tok} {R : List (Tok × List AV) → Prop} {S : St} : zhx pins R .ret S = (S.pin = pins ∧ R S.rs) := rfl
def itS(fn:Func)(nv:Nat)(ex:List Nat)(l:Nat)(caps:List AV)(rs:List (Tok×List AV))(pins:List Tok):St:=
 {n:=fn.ntmps,nv:=nv,vs:=ud 0 (.p (.opq (.func (.yield l) #[] #[]))::caps),ts:=[],rs:=rs,pin:=pins,ex:=ex}
theorem zoy [Gi] {P:Program} {w:World} {g:Gh} {gl:Y1 g w} {f:FuncId} {fn:Func} {c:Code}(nv:Nat)(ex:List Nat)(hf:P.funcs[f]?=some fn)(hb:fn.body=some c)(hres:fn.results= #[])
  {l:Nat} {caps:List AV} {us:List Value} (hcaps:zo g w caps us) (_hnv:caps.length+1≤nv) (hn:caps.length+1≤fn.ntmps) {rs:List (Tok×List AV)} {pins:List Tok} {R:List (Tok×List AV)→Prop} (hG:GS g w rs)
  (h:zV P ⟨w,g,gl⟩ c (zhx pins R) (itS fn nv ex l caps rs pins)):
  CallsIn Fence.wide 0 P f (#[.func (.yield l) #[] #[]]++us.toArray) w fun e w'=>(∃v,e=.returned v)∧∃S' g' a',SR ⟨w,g,gl⟩ S' g' a' w'∧S'.pin=pins∧R S'.rs:=by
 have hargs:zo g w (.p (.opq (.func (.yield l) #[] #[]))::caps) (.func (.yield l) #[] #[]::us):=by
  simp only[zo];exact⟨_,_,rfl,by simp only[zb,zl],hcaps⟩
 have hS:SR ⟨w,g,gl⟩ (itS fn nv ex l caps rs pins) g {tmps:=(.func (.yield l) #[] #[]::us).toArray++Array.replicate (fn.ntmps- (.func (.yield l) #[] #[]::us).toArray.size) undef,defers:=[]} w:=by
  have hlen:us.length=caps.length:=by
   clear h _hnv hn hargs
   induction caps generalizing us with
   |nil=>simp only[zo]at hcaps;subst hcaps;rfl
   |cons x xs ih=>simp only[zo]at hcaps;obtain⟨v,vs',rfl,_,h2⟩:=hcaps;simp[ih h2]
  refine⟨by simp[itS];omega,rfl,fun t=>?_,hG.roots,hG.ur,hG.ut,fun b hb=>⟨hG.own b hb,.inr hb⟩,fun b _=>⟨rfl,rfl⟩,Ext.refl _ _,⟨rfl,rfl,rfl⟩,Nat.le_refl _,hG.frb,fun b t hk _=>⟨hk,fun _ hn=>hn⟩⟩
  unfold St.get itS
  split
  ·simp only[xJ,Nat.zero_le,if_true,Nat.sub_zero]
   cases hx:(AV.p (.opq (.func (.yield l) #[] #[]))::caps)[t]? with
   |none=>simp only[qt,zb]
   |some x=>
    simp only[qt]
    obtain⟨v,hv,hr⟩:=hargs.get hx
    have hvl:=(List.getElem?_eq_some_iff.1 hv).1
    have:((.func (.yield l) #[] #[]::us).toArray++Array.replicate (fn.ntmps- (.func (.yield l) #[] #[]::us).toArray.size) undef).getD t undef=v:=by
     have h2:=(List.getElem?_eq_some_iff.1 hv).2
     simp only[Array.getD_eq_getD_getElem?,Array.getElem?_append]
     rw[if_pos (by simpa using hvl)]
     simp only[List.getElem?_toArray]
     rw[hv];rfl
    rw[this];exact hr
  ·simp only[look,qt,zb]
 have e0:(#[.func (.yield l) #[] #[]]++us.toArray:Array Value)=(.func (.yield l) #[] #[]::us).toArray:=by simp
 rw[e0]
 have hts:uV fn.results.toList=some []:=by rw[hres];rfl
 refine callsIn_of_wp_marks hf hb trivial (wpIn_mono ((wpIn_wide (n:=0)).2 (h g _ w hS)) ?_)
 have ends:∀u a' w',(u=Exit.normal∨u=Exit.ret)→post ⟨w,g,gl⟩ (zhx pins R) u a' w'→bodyPostM Fence.wide 0 P fn (fun e w'=>(∃v,e=.returned v)∧∃S' g' a',SR ⟨w,g,gl⟩ S' g' a' w'∧S'.pin=pins∧R S'.rs) u a' w':=by
  rintro u a' w' hu ⟨S',g',hq,hs⟩
  have hq':S'.pin=pins∧R S'.rs:=by rcases hu with rfl|rfl<;>exact hq
  obtain⟨v,h1,_⟩:=Vf (pin:=S'.pin) (R:=fun _ _=>True) hts hs ⟨S'.pin,.tup [],⟨rfl,by simp⟩,⟨trivial,by simp[go_sem,zf,leT]⟩,trivial⟩
  have:=hs.defers
  rcases hu with rfl|rfl<;>·simp only[bodyPostM,this,LeavesInM,LeavesIn];exact⟨v,h1,⟨v,rfl⟩,S',g',a',hs,hq'⟩
 rintro e a' w' hpost
 cases e with
 |normal=>exact ends _ _ _ (.inl rfl) hpost
 |ret=>exact ends _ _ _ (.inr rfl) hpost
 |panic ch=>obtain⟨S',g',hq,_⟩:=hpost;exact hq.elim
 |exit i=>obtain⟨S',g',hq,_⟩:=hpost;exact hq.elim
 |goto i=>obtain⟨S',g',hq,_⟩:=hpost;exact hq.elim
 |outgrown=>obtain⟨S',g',hq,_⟩:=hpost;exact hq.elim
theorem Yt {α:Type}:∀(l l':List (Nat×α)) (t:Nat),look (l++l') t=match look l t with|some x=>some x|none=>look l' t
 | [],l',t=>by simp[look]
 |(k,x)::l,l',t=>by
  simp only[List.cons_append,look]
  split
  ·rfl
  ·exact Yt l l' t
def zeG(S:St)(pins:List Tok)(next:List (Tok×List AV)):Exit→St→Prop
 |.normal,S2=>True∧LeR S2 (lst S [] next pins)
 |_,_=>False
@[go_sem] theorem zlo {S : St} {pins : List Tok} {next : List (Tok × List AV)} {S2 : St} : zeG S pins next .normal S2 = LeR S2 (lst S [] next pins) := by simp [zeG]
end
end Go.AM
namespace Go.Proofs.YtfjdbbpimklecaaGreatDoor
section
open Go.AM
def zE(l:List Int):PV:=.sl 1 (zP l)
theorem zhR(l:List Int):(zP l).flatMap PV.cells=zP l:=by
 unfold zP
 exact U8 l
theorem qf(l:List Int):(zP l).length=l.length:=by simp[zP]
theorem zh6(l:List Int):(zP l).map AV.p=zbi l:=rfl
theorem zfg [Gi](l:List Int)(h0:l≠ [])(hn:l.length<2^40):CR Tryz.prog 208 [] [.p (zE l)] [] (fun x rs=>x=.la [7] 1 0 l.length∧rs=[([7],zbi l)]):=by
 refine uI [] mixed 3 [] Tryz.func208 rfl (by kernel_rfl) [5] rfl (by simp) (by simp) ?_
 obtain⟨y,l',rfl⟩:∃y l',l=y::l':=by
  cases l with
  |nil=>exact absurd rfl h0
  |cons y l'=>exact⟨y,l',rfl⟩
 simp (maxSteps:=1000000) [go_sem,Tryz.f208,zE,zP]
 simp only[List.length_cons]at hn
 exact⟨by omega,zA [[7]] (.la [7] 1 0 (l'.length+1)) ⟨rfl,by simp⟩ (by simp[go_sem,zf,leA,leT]) ⟨rfl,by simp[go_sem,U8,zbi]⟩⟩
theorem CR.row [Gi] {P:Program} {fn:FuncId} {args:List AV} {t:Tok} {M:List Int}(h0:0<M.length)(h:CR P fn [] args [] (fun x rs=>x=.la t 1 0 M.length∧rs=[(t,zbi M)])):CR P fn [] args [] (is (.p (zE M))):=by
 refine CR.freeze h (fun _=>false) rfl ?_
 rintro x rs ⟨rfl,rfl⟩
 refine⟨.p (zE M),fun g w v hG hv=>?_,rfl,rfl⟩
 rw[vX]
 refine Uf (t:=t) (z:=1) (n:=M.length) (es:=zP M) (rt:=fun _=>false) hG [] h0 ?_ rfl (by simp[zP]) (fun e he=>?_) hv
 ·rw[zhR];simp[zn,zh6]
 ·obtain⟨s,_,rfl⟩:=List.mem_map.1 he
  exact⟨rfl,rfl⟩
def jK:xD:=⟨false,0,0,0,false⟩
def vA(t:Zm):xD→List Int→Nat
 |_,[]=>0
 |s,r::l=>if(ZC t s r).2 then 0 else 1+vA t (ZC t s r).1 l
theorem zgo(t:Zm):∀(l:List Int) (s:xD),vA t s l≤l.length
 | [],_=>by simp[vA]
 |r::l,s=>by
  unfold vA
  split
  ·omega
  ·have:=zgo t l (ZC t s r).1
   simp only[List.length_cons];omega
def znu:OT:=.now 0 1 (.now 1 1 (.now 2 1 (.now 3 1 (.now 4 1 (.now 5 1 (.mk [(6,.now 7 1 (.now 8 1 (.now 9 2 (.mk [(10,.mk [(11,.now 12 0 (.mk []))])])))),(10,.mk [(6,.now 7 0 (.now 8 0 (.now 9 2 (.mk [(11,.now 12 0 (.mk []))]))))])]))))))
def zg0(s:xD):List AV:=[.p (.bool s.some),.p (.int .i64 s.last),.p (.int .i64 s.pict),.p (.int .i64 s.conj),.p (.bool s.odd)]
theorem zlU [Gi] {t:Zm} {c b j f p:PV}(h:VL t c b j f p)(hz:Kp t)(ck cx sk sx:List PV)(l:List Int)(hn:l.length<2^31)(hr:∀x∈l,qg x)(a:Nat)(x:Int)(l':List Int)(ha:l.drop a=x::l'):
  CR Tryz.prog 207 [] [.p (kd c b j f p ck cx sk sx),.p (zE l),.p (.int .i64 a)] [] (is (.p (.int .i64 ((a+1+vA t (ZC t jK x).1 l':Nat):Int)))):=by
 have hal:a<l.length:=by
  have:=congrArg List.length ha
  simp at this;omega
 have hx:l[a]=x:=by
  have:=List.drop_eq_getElem_cons hal
  rw[ha]at this
  injection this with h1 _;exact h1.symm
 have hl':l'=l.drop (a+1):=by
  have:=List.drop_eq_getElem_cons hal
  rw[ha]at this
  injection this
 have hxr:qg x:=hr x (by rw[←hx];exact List.getElem_mem _)
 have em:elemAt (zP l) a=.int .i32 x:=by rw[zP,zp (fun r=>PV.int .i32 r) l a hal,hx]
 obtain⟨N,hN⟩:∃N,N=a+1+vA t (ZC t jK x).1 l':=⟨_,rfl⟩
 rw[←hN]
 refine zK [200007] mixed 11 [] Tryz.func207 rfl (by kernel_rfl) rfl (by simp) (by simp) ?_
 have w1:IntKind.i64.wrap ((a:Int)+1)=((a+1:Nat):Int):=zG (by omega)
 have g1:¬(a:Int)<0:=by omega
 have g2:¬((l.length:Int)≤a):=by omega
 have g3:(a:Int)<l.length:=by omega
 simp (maxSteps:=1000000) [go_sem,Tryz.f207,zE,qf,kd,g1,g2,g3,em]
 refine⟨⟨rfl,by simp[Tryz.f171]⟩,zd [] (K4 h hz ck cx sk sx jK x hxr) (by simp[go_sem]) ⟨by simp[go_sem],by simp[go_sem,yZ,jK,kd]⟩ (by simp[go_sem]) ?_⟩
 rintro _ rs ⟨rfl,rfl⟩
 have hso:∀s r,(ZC t s r).1.some=true:=fun _ _=>rfl
 obtain⟨s0,hs0⟩:∃s0,(ZC t jK x).1=s0:=⟨_,rfl⟩
 rw[hs0]at hN⊢
 generalize (ZC t jK x).2=cut0
 simp (maxSteps:=1000000) [go_sem,yZ,w1]
 refine zH (fun r:Nat×xD=>N=r.1+vA t r.2 (l.drop r.1)∧r.1≤l.length) (fun r=>[(2,.p (.int .i64 (r.1:Nat))),(9,.zY),(10,.zY)]) (fun r=>[([7],zg0 r.2)]) (fun r=>l.length-r.1) (a+1,s0) ⟨by rw[hN,hl'],by simp only;omega⟩ (by simp[go_sem,LeS,leV,leR,leA,leL,zg0]) (fun r hr2=>?_)
 obtain⟨i,s⟩:=r
 obtain⟨p1,p2⟩:=hr2
 simp only at p1 p2
 by_cases hil:i<l.length
 ·obtain⟨y,hy⟩:∃y,l[i]=y:=⟨_,rfl⟩
  have hyr:qg y:=hr y (by rw[←hy];exact List.getElem_mem _)
  have em2:elemAt (zP l) i=.int .i32 y:=by rw[zP,zp (fun r=>PV.int .i32 r) l i hil,hy]
  have hdr:l.drop i=y::l.drop (i+1):=by rw[←hy];exact List.drop_eq_getElem_cons hil
  have g4:(i:Int)<l.length:=by omega
  have w2:IntKind.i64.wrap ((i:Int)+1)=((i+1:Nat):Int):=zG (by omega)
  have hend:(ZC t s y).2=true→N=i:=fun e=>by rw[p1,hdr,vA,if_pos e];rfl
  have hgo:(ZC t s y).2=false→N=(i+1)+vA t (ZC t s y).1 (l.drop (i+1)):=fun e=>by rw[p1,hdr,vA,if_neg (by rw[e];simp)];omega
  simp (maxSteps:=1000000) [go_sem,qf,g4,zg0]
  refine QL znu (by kernel_rfl) ?_
  simp (maxSteps:=1000000) [go_sem,znu,qf,g4,em2]
  refine⟨⟨⟨rfl,by simp[Tryz.f171]⟩,zd [] (K4 h hz ck cx sk sx s y hyr) (by simp[go_sem]) ⟨by simp[go_sem],by simp[go_sem,yZ,kd]⟩ (by simp[go_sem]) ?_⟩,⟨⟨rfl,by simp[Tryz.f171]⟩,zd [] (K4 h hz ck cx sk sx s y hyr) (by simp[go_sem]) ⟨by simp[go_sem],by simp[go_sem,yZ,kd]⟩ (by simp[go_sem]) ?_⟩⟩
  ·rintro _ rs ⟨rfl,rfl⟩
   generalize ZC t s y=q at hend hgo
   obtain⟨s2,ct⟩:=q
   cases ct with
   |true=>
    have e:=hend rfl
    rw[e]
    simp (maxSteps:=1000000) [go_sem,yZ]
    exact zg (.p (.int .i64 (i:Nat))) rfl (by simp[go_sem,zf,leA,leT]) ⟨rfl,rfl⟩
   |false=>
    have e:=hgo rfl
    simp (maxSteps:=1000000) [go_sem,yZ,w2]
    exact zi (i+1,s2) ⟨e,by show i+1≤l.length;omega⟩ (by simp[go_sem,LeS,leV,leR,leA,leL]) (by show l.length- (i+1)<l.length-i;omega)
  ·rintro _ rs ⟨rfl,rfl⟩
   generalize ZC t s y=q at hend hgo
   obtain⟨s2,ct⟩:=q
   cases ct with
   |true=>
    have e:=hend rfl
    rw[e]
    simp (maxSteps:=1000000) [go_sem,yZ]
    exact zg (.p (.int .i64 (i:Nat))) rfl (by simp[go_sem,zf,leA,leT]) ⟨rfl,rfl⟩
   |false=>
    have e:=hgo rfl
    simp (maxSteps:=1000000) [go_sem,yZ,w2]
    exact zi (i+1,s2) ⟨e,by show i+1≤l.length;omega⟩ (by simp[go_sem,LeS,leV,leR,leA,leL]) (by show l.length- (i+1)<l.length-i;omega)
 ·have g4:¬(i:Int)<l.length:=by omega
  have e:N=i:=by rw[p1,List.drop_eq_nil_of_le (by omega)];rfl
  rw[e]
  simp (maxSteps:=1000000) [go_sem,qf,g4]
  exact zg (.p (.int .i64 (i:Nat))) rfl (by simp[go_sem,zf,leA,leT]) ⟨rfl,rfl⟩
def ve(t:Zm):Nat→List Int→List (List Int)
 |0,_=>[]
 |_,[]=>[]
 |n+1,r::l=>(r::l.take (vA t (ZC t jK r).1 l))::ve t n (l.drop (vA t (ZC t jK r).1 l))
def ue(t:Zm)(l:List Int):List (List Int):=ve t l.length l
theorem UY(t:Zm):∀(n m:Nat) (l:List Int),l.length≤n→l.length≤m→ve t n l=ve t m l
 |0,m,l,h1,h2=>by
  obtain rfl:l=[]:=List.eq_nil_of_length_eq_zero (by omega)
  cases m<;>rfl
 |n+1,0,l,h1,h2=>by
  obtain rfl:l=[]:=List.eq_nil_of_length_eq_zero (by omega)
  rfl
 |n+1,m+1,[],h1,h2=>rfl
 |n+1,m+1,r::l,h1,h2=>by
  simp only[List.length_cons]at h1 h2
  simp only[ve]
  rw[UY t n m _ (by rw[List.length_drop];omega) (by rw[List.length_drop];omega)]
theorem zfI(t:Zm)(r:Int)(l:List Int):ue t (r::l)=(r::l.take (vA t (ZC t jK r).1 l))::ue t (l.drop (vA t (ZC t jK r).1 l)):=by
 unfold ue
 simp only[List.length_cons,ve]
 rw[UY t l.length _ _ (by rw[List.length_drop];omega) (Nat.le_refl _)]
structure Cst where
 o:List Int
 s:Int
 l:Int
def zm6(k:Int→Int)(z:Cst)(r:Int):Prop:=0≤z.s∧(z.s=z.o.length-1∨(z.l≠0∧z.l<k r))
instance (k:Int→Int)(z:Cst)(r:Int):Decidable (zm6 k z r):=by unfold zm6;infer_instance
structure zre(z:Cst)(n:Nat):Prop where
 lo: -1≤z.s
 hi:z.s<z.o.length
 nn:z.o.length≤n
 ne:0<n→z.o≠ []
def q9(L:List (List Int)):List PV:=L.map zE
def xE(L:List (List Int)):PV:=.sl 1 (q9 L)
theorem zjg [Gi](l:List Int)(h0:l≠ [])(hn:l.length<2^40):CR Tryz.prog 208 [] [.p (zE l)] [] (is (.p (zE l))):=CR.row (List.length_pos_iff.2 h0) (zfg l h0 hn)
end
section
open Go.RowKit Go.Lib
end
section
open Go.AM
def zkn(a b:Int):Option Int:=
 if 4352≤a∧a≤4370∧4449≤b∧b≤4469 then some (44032+(a-4352)*588+(b-4449)*28)
 else if zis a=true∧(a-44032)%28=0∧4520≤b∧b≤4546 then some (a+(b-4519))else none
def Vl(l:List Row):Nat→Int→List Int
 |0,r=>if zis r then UL r else [r]
 |d+1,r=>if zis r then UL r else
  match zdX l r with
  |none=>[r]
  |some p=>Vl l d p.1++(if p.2=0 then []else Vl l d p.2)
theorem Ut(l:List Row):∀d r,(Vl l d r).length≤3*2^d
 |0,r=>by
  unfold Vl
  split
  ·unfold UL;split<;>simp
  ·simp
 |d+1,r=>by
  have h3:1≤2^d:=Nat.one_le_two_pow
  unfold Vl
  rw[Nat.pow_succ]
  split
  ·unfold UL;split<;>simp<;>omega
  ·split
   ·simp;omega
   ·rename_i p _
    have h1:=Ut l d p.1
    have h2:=Ut l d p.2
    split
    ·simp;omega
    ·simp;omega
def vB(k:Int→Int)(x:Int):List Int→List Int
 | []=>[x]
 |y::l=>if k x≠0∧k x<k y then y::vB k x l else x::y::l
def zh3(k:Int→Int)(O:List Int)(x:Int):List Int:=(vB k x O.reverse).reverse
def zlW(k:Int→Int)(l:List Int):List Int:=l.foldl (zh3 k) []
theorem JN(k:Int→Int)(x:Int):∀l,(vB k x l).length=l.length+1
 | []=>rfl
 |y::l=>by unfold vB;split<;>simp[JN k x l]
theorem zkp(k:Int→Int)(O:List Int)(x:Int):(zh3 k O x).length=O.length+1:=by simp[zh3,JN]
theorem zjK(k:Int→Int)(l:List Int):(zlW k l).length=l.length:=by
 suffices H:∀(l O:List Int),(l.foldl (zh3 k) O).length=O.length+l.length by simpa[zlW]using H l []
 intro l
 induction l with
 |nil=>intro O;rfl
 |cons x l ih=>intro O;rw[List.foldl_cons,ih,zkp,List.length_cons];omega
def kD(rows:List Row)(x:Int):Int:=aL rows 1 x
def Jb(rows:List Row)(l:List Int):List Int:=l.flatMap (Vl rows 8)
def zhv(rows:List Row)(l:List Int):List Int:=zlW (kD rows) (Jb rows l)
theorem zfC(rows:List Row)(l:List Int):(Jb rows l).length≤768*l.length:=by
 induction l with
 |nil=>simp[Jb]
 |cons x l ih=>
  have:=Ut rows 8 x
  simp only[Jb,List.flatMap_cons,List.length_append,List.length_cons]at*
  omega
theorem Wm {rows:List Row}(hrw:QK rows):∀d r,qg r→∀x∈Vl rows d r,qg x
 |0,r,hr,x,hx=>by
  unfold Vl at hx
  split at hx
  ·rename_i hs
   have hs':44032≤r∧r<55204:=by simpa[zis]using hs
   unfold UL at hx
   unfold qg
   split at hx<;>simp at hx<;>omega
  ·rw[List.mem_singleton.1 hx];exact hr
 |d+1,r,hr,x,hx=>by
  unfold Vl at hx
  split at hx
  ·rename_i hs
   have hs':44032≤r∧r<55204:=by simpa[zis]using hs
   unfold UL at hx
   unfold qg
   split at hx<;>simp at hx<;>omega
  ·split at hx
   ·rw[List.mem_singleton.1 hx];exact hr
   ·rename_i p hp
    have hb:=zk2 hrw hp
    rcases List.mem_append.1 hx with hx|hx
    ·exact Wm hrw d _ ⟨by omega,by omega⟩ x hx
    ·split at hx
     ·simp at hx
     ·exact Wm hrw d _ ⟨by omega,by omega⟩ x hx
theorem zc2 {rows:List Row}(hrw:QK rows) {l:List Int}(hl:∀x∈l,qg x):∀x∈Jb rows l,qg x:=fun x hx=>by
 obtain⟨r,hr,hx⟩:=List.mem_flatMap.1 hx
 exact Wm hrw 8 r (hl r hr) x hx
end
end Go.Proofs.YtfjdbbpimklecaaGreatDoor
