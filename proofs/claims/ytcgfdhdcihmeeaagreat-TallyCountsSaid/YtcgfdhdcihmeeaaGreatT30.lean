/- A part of the proof of this seat's statements, by an abstract machine: what each operation does to values, and what the law's functions compute. Conditions: as each law says. -/
import Derived.Test.YtcgfdhdcihmeeaaGreatT29
import Derived.RangeFuncRecord
section
namespace Go.AM
structure X7(own:Nat→Prop)(A B:World):Prop where
 size:A.heap.size≤B.heap.size
 same:∀b,b<A.heap.size→¬own b→B.heap[b]?=A.heap[b]?
 out:B.os=A.os∧B.tape=A.tape∧B.output=A.output
def zmm(P:Program)(gf:FuncId)(lb:Array Value)(own:Nat→Prop)(w:World)(els:List (List UInt8)):Prop:=
 ∀(l:Nat) (J:List (List UInt8)→World→Prop) (Jx:World→Prop) (W:World),
  (∀b,own b→W.heap[b]?=w.heap[b]?)→(∀pre A B,J pre A→X7 own A B→J pre B)→(∀A B,Jx A→X7 own A B→Jx B)→
  (∀pre x A,J pre A→(pre++[x])<+:els→YieldAt Fence.wide 0 P l #[.string ⟨x.toArray⟩] A fun e B=>(∀b,own b→B.heap[b]?=A.heap[b]?)∧((e=.returned (.bool true)∧J (pre++[x]) B)∨(e=.returned (.bool false)∧Jx B)))→
  J [] W→CallsIn Fence.wide 0 P gf (#[.func (.yield l) #[] #[]]++lb) W fun e B=>(∃v,e=.returned v)∧(J els B∨Jx B)
def zng(P:Program)(gf:FuncId)(caps:List AV)(toks:List Tok)(rs:List (Tok×List AV))(els:List (List UInt8)):Prop:=
 ∀(g:Gh) (w:World) (vs:List Value),zm g w caps vs→(∀b t,g.K b=.root t→t∈toks→∃cs,zl rs t=some cs∧zdQ g w b cs)→
  ∃own:Nat→Prop,(∀b,own b→∃t,t∈toks∧g.K b=.root t)∧zmm P gf vs.toArray own w els
def Obj.bare:Obj→Bool
 |.loop _=>true
 |.deferred _=>true
 |_=>false
theorem xz {w:World} {b:Nat} {o:Obj}(h:w.heap[b]?=some o)(ho:Obj.bare o=true):(∀k,w.cell? ⟨b,k,none⟩=none)∧Qn w b=none:=by
 refine⟨fun k=>?_,?_⟩
 ·unfold World.cell?
  cases o<;>simp[Obj.bare]at ho<;>simp[h]
 ·unfold Qn
  cases o<;>simp[Obj.bare]at ho<;>simp[h]
section
variable {g g':Gh} {w w':World}
structure KV(g:Gh)(w:World)(g':Gh)(w':World)(pins:List Tok):Prop where
 ext:Ext g.fr w g'.fr w'
 kr:∀b t,t∈pins→g.K b=.root t→g'.K b=.root t
theorem KV.trans {g3:Gh} {w3:World} {pins:List Tok}(h:KV g w g' w' pins)(k:KV g' w' g3 w3 pins):KV g w g3 w3 pins:=⟨h.ext.trans k.ext,fun b t ht hk=>k.kr b t ht (h.kr b t ht hk)⟩
theorem KV.QS {pins:List Tok} {l:Nat} {o o':Obj}(hl:w.heap[l]?=some o)(ho:Obj.bare o=true)(ho':Obj.bare o'=true):KV g w g (w.putObj l o') pins:=by
 refine⟨fun c k hk=>⟨hk,?_⟩,fun _ _ _ hk=>hk⟩
 have h2:(w.putObj l o').heap[l]?=some o':=World.putObj_heap_same (Array.getElem?_eq_some_iff.1 hl).1
 by_cases e:c=l
 ·subst e
  obtain⟨a1,a2⟩:=xz hl ho
  obtain⟨b1,b2⟩:=xz h2 ho'
  exact⟨by rw[a1,b1],by rw[a2,b2]⟩
 ·exact zL (World.putObj_heap_other e)
def jX(pins:List Tok):AV→AV
 |.p x=>.p x
 |.lp t o=>if pins.contains t then .lp t o else .z8
 |_=>.z8
theorem KV.rep {pins:List Tok}(k:KV g w g' w' pins) {y:AV} {v:Value}(r:zb g w y v):zb g' w' (jX pins y) v:=by
 cases y with
 |p x=>simp only[jX,zb]at r⊢;exact r.ext k.ext
 |lp t o=>
  simp only[jX]
  split
  ·rename_i ht
   simp only[zb]at r⊢
   obtain⟨b,hk,e⟩:=r
   exact⟨b,k.kr b t (by simpa using ht) hk,e⟩
  ·simp only[zb]
 |_=>simp only[jX,zb]
end
section
variable [Gi] {E:Ent} {S S':St} {g g':Gh} {a a':Act} {w w':World}
theorem SR.Y5(h:SR E S g a w)(pin':List Tok):SR ⟨w,g,h.gl⟩ {S with pin:=pin'} g a w:=
 ⟨h.size,h.defers,h.slots,h.roots,h.ur,h.ut,fun b hb=>⟨(h.own b hb).1,.inr hb⟩,fun _ _=>⟨rfl,rfl⟩,Ext.refl _ _,⟨rfl,rfl,rfl⟩,Nat.le_refl _,h.frb,fun _ _ hk _=>⟨hk,fun _ hn=>hn⟩⟩
theorem SR.zmB(h:SR E S g a w) {b:Nat}(hb:¬E.may b):¬(Ent.mk w g h.gl).may b:=by
 have hlt:=h.jJ hb
 rintro(h1|h1)
 ·have:w.heap.size≤b:=h1;omega
 ·exact hb (h.own b h1).2
theorem SR.comp(h:SR E S g a w)(h':SR ⟨w,g,h.gl⟩ S' g' a' w')(hp:∀t,t∈S.pin→t∈S'.pin):SR E {S' with pin:=S.pin} g' a' w':=by
 refine⟨h'.size,h'.defers,h'.slots,h'.roots,h'.ur,h'.ut,fun b hb=>⟨(h'.own b hb).1,?_⟩,fun b hb=>?_,h.ext.trans h'.ext,?_,Nat.le_trans h.mono h'.mono,h'.frb,fun b t hk ht=>?_⟩
 ·rcases(h'.own b hb).2 with h1|h1
  ·exact .inl (Nat.le_trans h.mono h1)
  ·exact(h.own b h1).2
 ·obtain⟨e1,e2⟩:=h'.frame b (h.zmB hb)
  obtain⟨f1,f2⟩:=h.frame b hb
  exact⟨e1.trans f1,e2.trans f2⟩
 ·exact⟨h'.out.1.trans h.out.1,h'.out.2.1.trans h.out.2.1,h'.out.2.2.trans h.out.2.2⟩
 ·obtain⟨k1,k2⟩:=h.pins b t hk ht
  obtain⟨k3,k4⟩:=h'.pins b t k1 (hp t ht)
  exact⟨k3,fun n hn=>k4 n (k2 n hn)⟩
theorem SR.stays(h:SR E S g a w)(h':SR ⟨w,g,h.gl⟩ S' g' a' w') {b:Nat}(hb:b<w.heap.size)(hk:g.K b=.prot):w'.heap[b]?=w.heap[b]?∧g'.fr b=g.fr b∧g'.K b=.prot:=by
 have hm:¬(Ent.mk w g h.gl).may b:=by
  rintro(h1|h1)
  ·have:w.heap.size≤b:=h1;omega
  ·exact h1 hk
 obtain⟨e1,e2⟩:=h'.frame b hm
 exact⟨e1,e2,Classical.byContradiction fun e=>hm (h'.own b e).2⟩
theorem SR.sub(h:SR E S g a w)(hl:LeR S S')(hpin:S'.pin=S.pin):∃g',SR E S' g' a w∧∀b,b<w.heap.size→g.K b=.prot→g'.K b=.prot∧g'.fr b=g.fr b:=by
 obtain⟨g',h'⟩:=(show SR ⟨w,g,h.gl⟩ S g a w from h.Y5 S.pin).leR hl
 refine⟨g',?_,fun b hb hk=>?_⟩
 ·have:=h.comp h' (fun t ht=>by rw[hpin];exact ht)
  rwa[←hpin]at this
 ·obtain⟨_,e2,e3⟩:=h.stays h' hb hk
  exact⟨e3,e2⟩
theorem SR.QS(h:SR E S g a w) {l:Nat} {o o':Obj}(hl:w.heap[l]?=some o)(ho:Obj.bare o=true)(ho':Obj.bare o'=true)(hk:g.K l=.prot)(hm:E.may l):SR E S g a (w.putObj l o'):=by
 have hlt:l<w.heap.size:=(Array.getElem?_eq_some_iff.1 hl).1
 have hne:∀c t,g.K c=.root t∨g.K c=.tail t→c≠l:=fun c t hc e=>by subst e;rw[hk]at hc;simp at hc
 have h2:(w.putObj l o').heap[l]?=some o':=World.putObj_heap_same hlt
 refine h.zd9 (fr':=g.fr) ⟨fun c o ho1=>⟨ho1,?_⟩,fun c t _ hc=>⟨hc,fun _ hb=>Blk.of_heap (World.putObj_heap_other (hne c t (.inl hc))) hb⟩,fun c t _ hc=>⟨hc,rfl,World.putObj_heap_other (hne c t (.inr hc))⟩⟩
  (fun c t hc=>⟨World.putObj_heap_other (hne c t (.inl hc)),rfl⟩) (fun c hc=>⟨World.putObj_heap_other (fun e=>hc (e▸hm)),rfl⟩) ⟨rfl,rfl,rfl⟩ (by simp) (fun c hc=>h.frb c (by simpa using hc))
 by_cases e:c=l
 ·subst e
  obtain⟨a1,a2⟩:=xz hl ho
  obtain⟨b1,b2⟩:=xz h2 ho'
  exact⟨by rw[a1,b1],by rw[a2,b2]⟩
 ·exact zL (World.putObj_heap_other e)
theorem SR.zfe(h:SR E S g a w) {own:Nat→Prop}(ho:∀b,own b→g.K b=.prot∧g.fr b=0∧E.may b)(st:X7 own w w'):SR E S g a w':=by
 have hne:∀c t,g.K c=.root t∨g.K c=.tail t→w'.heap[c]?=w.heap[c]?:=fun c t hc=>by
  refine st.same c (h.own c ?_).1 (fun k=>?_)
  ·rcases hc with e|e<;>rw[e]<;>simp
  ·rw[(ho c k).1]at hc;simp at hc
 refine h.zd9 (fr':=g.fr) ⟨fun c o ho1=>⟨ho1,?_⟩,fun c t _ hc=>⟨hc,fun _ hb=>Blk.of_heap (hne c t (.inl hc)) hb⟩,fun c t _ hc=>⟨hc,rfl,hne c t (.inr hc)⟩⟩
  (fun c t hc=>⟨hne c t (.inl hc),rfl⟩) (fun c hc=>⟨st.same c (h.jJ hc) (fun k=>hc (ho c k).2.2),rfl⟩) st.out st.size (fun c hc=>h.frb c (Nat.le_trans st.size hc))
 refine zL (st.same c ?_ (fun k=>by rw[(ho c k).2.1]at ho1;omega))
 rcases Nat.lt_or_ge c w.heap.size with h'|h'
 ·exact h'
 ·have:=h.frb c h';omega
theorem KV.of(h:SR E S g a w) {pins:List Tok}(h':SR ⟨w,g,h.gl⟩ S' g' a' w')(hp:S'.pin=pins):KV g w g' w' pins:=⟨h'.ext,fun b t ht hk=>(h'.pins b t hk (by rw[hp];exact ht)).1⟩
def kx(S:St)(pins:List Tok)(rs:List (Tok×List AV)):St:={S with vs:=S.vs.map (fun x=>(x.1,jX pins x.2)),ts:=[],rs:=rs}
theorem SR.back(h:SR E S g a w) {pins:List Tok}(h':SR E S' g' a' w')(k:KV g w g' w' pins)(hp:S'.pin=S.pin):SR E (kx S pins S'.rs) g' a w':=by
 refine⟨h.size,h.defers,fun t=>?_,h'.roots,h'.ur,h'.ut,h'.own,h'.frame,h'.ext,h'.out,h'.mono,h'.frb,fun b t hk ht=>h'.pins b t hk (by rw[hp];exact ht)⟩
 have hk:(kx S pins S'.rs).kept t=S.kept t:=rfl
 have hs:=h.slots t
 unfold St.get at hs⊢
 rw[hk]
 split
 ·rename_i hc
  rw[if_pos hc]at hs
  show zb g' w' (qn (look (S.vs.map fun x=>(x.1,jX pins x.2)) t)) _
  rw[wV (jX pins)]
  cases hx:look S.vs t with
  |none=>simp only[Option.map_none,qn,zb]
  |some y=>
   rw[hx]at hs
   simp only[Option.map_some,qn]at hs⊢
   exact k.rep hs
 ·simp only[kx,look,qn,zb]
end
def mark(D:Nat):Deferred:={target:=.collected D,args:= #[]}
def za6 [Gi](E:Ent)(Q:Exit→St→Prop):Exit→Act→World→Prop:=fun e a w=>
 post E Q e a w∨∃D b S g,a=jy [mark D] b∧Q e S∧SR E S g b w∧g.K D=.prot∧w.heap[D]?=some (.deferred (some []))∧E.w0.heap.size≤D
def Qb [Gi](P:Program)(c:Code)(Q:Exit→St→Prop)(S:St):Prop:=∀(E:Ent) (g:Gh) (a:Act) (w:World),SR E S g a w→c.wpIn Fence.wide 0 P (za6 E Q) a w
def zhf [Gi](P:Program)(c:Code)(Q:Exit→St→Prop)(S:St):Prop:=
 ∀(E:Ent) (g:Gh) (a:Act) (w:World) (D:Nat),SR E S g a w→g.K D=.prot→w.heap[D]?=some (.deferred (some []))→E.w0.heap.size≤D→c.wpIn Fence.wide 0 P (za6 E Q) (jy [mark D] a) w
section
variable [Gi] {P:Program} {Q:Exit→St→Prop} {S:St}
theorem Qb.ZY {D:List Nat}(hm:P.follows .mixedOrders=true) {c:Code}(hc:q9 D c=true)(h:wpA P D c Q S):Qb P c Q S:=
 fun _ _ _ _ hS=>wpIn_mono (wpIn_wide.2 (Zq hm c hc h hS)) fun _ _ _ k=>.inl k
def zeC(P:Program)(y:Code)(Q:Exit→St→Prop):Exit→St→Prop
 |.normal,S'=>Qb P y Q S'
 |e,S'=>Q e S'
@[go_sem] theorem zky {y : Code} {S' : St} : zeC P y Q .normal S' = Qb P y Q S' := rfl
@[go_sem] theorem zmH {y : Code} {S' : St} : zeC P y Q .ret S' = Q .ret S' := rfl
theorem Qb.seq {D:List Nat}(hm:P.follows .mixedOrders=true) {x y:Code}(hc:q9 D x=true)(h:wpA P D x (zeC P y Q) S):Qb P (.seq x y) Q S:=by
 intro E g a w hS
 refine wpIn_seq (wpIn_mono (wpIn_wide.2 (Zq hm x hc h hS)) ?_)
 rintro e a' w' ⟨S',g',hq,hs⟩
 cases e with
 |normal=>exact hq E g' a' w' hs
 |_=>exact .inl ⟨S',g',hq,hs⟩
def zdN [Gi](P:Program)(b c:Code)(Q:Exit→St→Prop)(S:St):Prop:=∀(E:Ent) (g:Gh) (a:Act) (w:World),SR E S g a w→b.wpIn Fence.wide 0 P (Exit.then (c.wpIn Fence.wide 0 P (za6 E Q)) (za6 E Q)) a w
def zi1(P:Program)(b c:Code)(Q:Exit→St→Prop):Exit→St→Prop
 |.normal,S'=>zdN P b c Q S'
 |e,S'=>Q e S'
@[go_sem] theorem zjK {b c : Code} {S' : St} : zi1 P b c Q .normal S' = zdN P b c Q S' := rfl
@[go_sem] theorem zmY {b c : Code} {S' : St} : zi1 P b c Q .ret S' = Q .ret S' := rfl
theorem Qb.zoN {D:List Nat}(hm:P.follows .mixedOrders=true) {x b c:Code}(hc:q9 D x=true)(h:wpA P D x (zi1 P b c Q) S):Qb P (.seq (.seq x b) c) Q S:=by
 intro E g a w hS
 refine wpIn_seq (wpIn_seq (wpIn_mono (wpIn_wide.2 (Zq hm x hc h hS)) ?_))
 rintro e a' w' ⟨S',g',hq,hs⟩
 cases e with
 |normal=>exact hq E g' a' w' hs
 |_=>exact .inl ⟨S',g',hq,hs⟩
def zod(pin:List Tok)(Q:Exit→St→Prop):Exit→St→Prop:=fun e S'=>S'.pin=pin∧Q e S'
theorem zhf.ZY {D:List Nat} {c:Code}(hc:jm c=true)(h:wpA P D c (zod S.pin Q) S):zhf P c Q S:=by
 intro E g a w D hS hk hD hlt
 have hdlt:D<w.heap.size:=(Array.getElem?_eq_some_iff.1 hD).1
 refine wpIn_mono (jH (r:=none) (ds:=[mark D]) c hc h (hS.Y5 S.pin)) ?_
 rintro e _ w' ⟨b,rfl,S',g',⟨hp,hq⟩,hs⟩
 obtain⟨e1,_,e3⟩:=hS.stays hs hdlt hk
 have:=hS.comp hs (fun t ht=>by rw[hp];exact ht)
 rw[←hp]at this
 exact .inr ⟨D,b,S',g',rfl,hq,this,e3,e1.trans hD,hlt⟩
theorem vz {f:FuncId} {fn:Func} {c:Code} {ts:List (Nat×Option TypeId)}(nv:Nat)(ex:List Nat)(hf:P.funcs[f]?=some fn)(hb:fn.body=some c)
  (hres:uN fn.results.toList=some ts) {pin:List Tok} {args:List AV} {rs:List (Tok×List AV)} {R:AV→List (Tok×List AV)→Prop} (hnv:args.length≤nv) (hn:args.length≤fn.ntmps)
  (h:Qb P c (WG P pin ts R) {n:=fn.ntmps,nv:=nv,vs:=uV 0 args,ts:=[],rs:=rs,pin:=pin,ex:=ex}):CR P f pin args rs R:=by
 intro w g vs hargs hG
 have hlen:vs.length=args.length:=by
  have h0:args.length≤nv:=hnv
  clear h0 h hnv hn
  induction args generalizing vs with
  |nil=>simp only[zm]at hargs;subst hargs;rfl
  |cons x xs ih=>simp only[zm]at hargs;obtain⟨v,vs',rfl,_,h2⟩:=hargs;simp[ih vs' h2]
 let E:Ent:=⟨w,g,hG.gl⟩
 have hS:SR E {n:=fn.ntmps,nv:=nv,vs:=uV 0 args,ts:=[],rs:=rs,pin:=pin,ex:=ex} g {tmps:=vs.toArray++Array.replicate (fn.ntmps-vs.toArray.size) undef,defers:=[]} w:=by
  refine⟨by simp;omega,rfl,fun t=>?_,hG.roots,hG.ur,hG.ut,fun b hb=>⟨hG.own b hb,.inr hb⟩,fun b _=>⟨rfl,rfl⟩,Ext.refl _ _,⟨rfl,rfl,rfl⟩,Nat.le_refl _,hG.frb,fun b t hk _=>⟨hk,fun _ hn=>hn⟩⟩
  unfold St.get
  split
  ·simp only[vS,Nat.zero_le,if_true,Nat.sub_zero]
   cases hx:args[t]? with
   |none=>simp only[qn,zb]
   |some x=>
    simp only[qn]
    obtain⟨v,hv,hr⟩:=hargs.get hx
    have hvl:=(List.getElem?_eq_some_iff.1 hv).1
    have:(vs.toArray++Array.replicate (fn.ntmps-vs.toArray.size) undef).getD t undef=v:=by
     simp[Array.getD_eq_getD_getElem?,Array.getElem?_append,hvl]
     have:=(List.getElem?_eq_some_iff.1 hv).2
     exact this
    rw[this];exact hr
  ·simp only[look,qn,zb]
 refine(callsIn_wide (n:=0)).1 (callsIn_of_wp_marks hf hb trivial (wpIn_mono (h E g _ w hS) ?_))
 rintro e a' w' hpost
 have fin:uz P pin ts R=uz P pin ts R:=rfl
 have ends:∀u,(u=Exit.normal∨u=Exit.ret)→za6 E (WG P pin ts R) u a' w'→bodyPostM Fence.wide 0 P fn (fun e w'=>∃v x rs' g',e=.returned v∧R x rs'∧zb g' w' x v∧GS g' w' rs'∧Aft g w g' w' pin) u a' w':=by
  rintro u hu (⟨S',g',hq,hs⟩|⟨D,b,S',g',rfl,hq,hs,hk,hD,hlt⟩)
  ·have hq':uz P pin ts R S':=by rcases hu with rfl|rfl<;>exact hq
   obtain⟨v,h1,h2⟩:=Kf hres hs hq'
   have:=hs.defers
   rcases hu with rfl|rfl<;>·simp only[bodyPostM,this,LeavesInM,LeavesIn];exact⟨v,h1,v,by obtain⟨v',x,rs',g'',e,r⟩:=h2;injection e with e;subst e;exact⟨x,rs',g'',rfl,r⟩⟩
  ·have hq':uz P pin ts R S':=by rcases hu with rfl|rfl<;>exact hq
   have hs2:=hs.QS (o':=.deferred none) hD rfl rfl hk (.inl hlt)
   obtain⟨v,h1,h2⟩:=Kf hres hs2 hq'
   have goal:LeavesInM Fence.wide 0 P fn b.tmps (fun e w'=>∃v x rs' g',e=.returned v∧R x rs'∧zb g' w' x v∧GS g' w' rs'∧Aft g w g' w' pin) [mark D] .returning w':=by
    refine⟨by simp,.inl ⟨D,_,rfl,run_takeDeferred hD,?_⟩⟩
    simp only[LeavesInM,LeavesIn]
    exact⟨v,h1,v,by obtain⟨v',x,rs',g'',e,r⟩:=h2;injection e with e;subst e;exact⟨x,rs',g'',rfl,r⟩⟩
   rcases hu with rfl|rfl<;>exact goal
 cases e with
 |normal=>exact ends _ (.inl rfl) hpost
 |ret=>exact ends _ (.inr rfl) hpost
 |panic ch=>rcases hpost with ⟨S',g',hq,_⟩|⟨_,_,S',g',_,hq,_⟩<;>exact hq.elim
 |exit i=>rcases hpost with ⟨S',g',hq,_⟩|⟨_,_,S',g',_,hq,_⟩<;>exact hq.elim
 |goto i=>rcases hpost with ⟨S',g',hq,_⟩|⟨_,_,S',g',_,hq,_⟩<;>exact hq.elim
 |outgrown=>rcases hpost with ⟨S',g',hq,_⟩|⟨_,_,S',g',_,hq,_⟩<;>exact hq.elim
end
def lst(S:St)(V:List (Nat×AV))(rs:List (Tok×List AV))(pin:List Tok):St:={S with vs:=V,ts:=[],rs:=rs,pin:=pin}
def zdp(S:St)(V:List (Nat×AV))(pins:List Tok)(I:Prop)(next:List (Tok×List AV))(Q:Exit→St→Prop):Exit→St→Prop
 |.normal,S2=>I∧LeR S2 (lst S [] next pins)
 |.ret,S2=>S2.pin=pins∧Q .ret (lst S V S2.rs S.pin)
 |_,_=>False
def zat(pins:List Tok)(K:St→Prop):Exit→St→Prop
 |.normal,S1=>S1.pin=pins∧K S1
 |_,_=>False
@[go_sem] theorem zjt {S : St} {V : List (Nat × AV)} {pins : List Tok} {I : Prop} {next : List (Tok × List AV)} {Q : Exit → St → Prop} {S2 : St} : zdp S V pins I next Q .normal S2 = (I ∧ LeR S2 (lst S [] next pins)) := rfl
@[go_sem] theorem zlC {S : St} {V : List (Nat × AV)} {pins : List Tok} {I : Prop} {next : List (Tok × List AV)} {Q : Exit → St → Prop} {S2 : St} : zdp S V pins I next Q .ret S2 = (S2.pin = pins ∧ Q .ret (lst S V S2.rs S.pin)) := rfl
@[go_sem] theorem ziL {pins : List Tok} {K : St → Prop} {S1 : St} : zat pins K .normal S1 = (S1.pin = pins ∧ K S1) := rfl
theorem St.zif {S1:St} {p q:List Tok}(h:S1.pin=q):({({S1 with pin:=p}:St)with pin:=q}:St)=S1:=by cases S1;cases h;rfl
theorem zdN.range [Gi] {P:Program} {S:St} {Q:Exit→St→Prop} {gop:Operand} {p id:Nat} {assign body rest:Code} {D:List Nat}(hm:P.follows .mixedOrders=true)
  {gf:FuncId} {caps:List AV} (hg:S.ev gop=.fn gf caps) (hent:((P.funcs[gf]?).map (·.body.isSome))=some true) (hnam:((P.funcs[gf]?).map (·.name))≠some "runtime.NumGoroutine")
  (toks:List Tok) (hpin:S.pin.all (fun t=>!toks.contains t)=true) {els:List (List UInt8)} (hit:zng P gf caps toks S.rs els)
  (V:List (Nat×AV)) (pins:List Tok) (I:List (List UInt8)→Prop) (R:List (List UInt8)→List (Tok×List AV)) (hV:V.map (fun x=>(x.1,jX pins x.2))=V) (hpins:∀t,t∈S.pin→t∈pins)
  (hI:I []) (h0:LeR (S.fil (fun t=>!toks.contains t) ftt) (lst S V (R []) S.pin)) (hp:p<S.n) (hca:ZT D assign=true) (hcb:ZT D body=true)
  (hround:∀pre x,I pre→(pre++[x])<+:els→wpA P D assign (zat pins fun S1=>wpA P D body (zdp S V pins (I (pre++[x])) (R (pre++[x])) Q) S1) ((lst S V (R pre) pins).set p (.p (.str x))))
  (hrest:I els→zhf P rest Q (lst S V (R els) S.pin)):zdN P (.block id (.rangeFunc gop #[p] assign body)) rest Q S:=by
 intro E g a w hS
 have hgv:=hS.ev gop
 rw[hg]at hgv
 simp only[zb]at hgv
 obtain⟨lb,hgv,hcaps⟩:=hgv
 obtain⟨own,hown,hiter⟩:=hit g w lb.toList hcaps (fun b t hk _=>hS.roots b t hk)
 have hpin':∀t,t∈S.pin→(!toks.contains t)=true:=fun t ht=>List.all_eq_true.1 hpin t ht
 have h1:=hS.filter (fun t=>!toks.contains t) ftt hpin'
 have own1:∀b,own b→(g.fil (fun t=>!toks.contains t) ftt).K b=.prot∧g.fr b=0∧b<w.heap.size∧E.may b:=fun b hb=>by
  obtain⟨t,ht,hk⟩:=hown b hb
  obtain⟨cs,_,hfr,_⟩:=hS.roots b t hk
  have hw:=hS.own b (by rw[hk];simp)
  refine⟨?_,hfr,hw.1,hw.2⟩
  show(g.K b).fil _ _=.prot
  rw[hk]
  simp only[Kd.fil]
  rw[if_neg]
  simpa using ht
 obtain⟨g2,h2,hk2⟩:=h1.sub h0 rfl
 have own2:∀b,own b→g2.K b=.prot∧g2.fr b=0:=fun b hb=>by
  obtain⟨k1,k2,k3,_⟩:=own1 b hb
  obtain⟨k4,k5⟩:=hk2 b k3 k1
  exact⟨k4,k5.trans k2⟩
 have hmono:E.w0.heap.size≤w.heap.size:=hS.mono
 have eg:∀args w,(callFunc gf args).run P w=.ok (.enter gf args) w:=fun args w=>Qv hent hnam
 refine wpIn_block (wpIn_rangeFunc ?_)
 intro fn hfn
 obtain⟨rec,hrec⟩:∃rec:LoopState→Option Code→Loop,rec=fun st pe=>{state:=st,pending:=pe,fn,tmps:=a.tmps,params:= #[p],assign,body,defers:=w.heap.size}:=⟨_,rfl⟩
 obtain⟨W1,hW1⟩:∃W1,(w.alloc (.deferred (some []))).alloc (.loop (rec .ready none))=W1:=⟨_,rfl⟩
 have hL1:W1.heap[w.heap.size+1]?=some (.loop (rec .ready none)):=by
  rw[←hW1];have:=World.alloc_heap_new (w.alloc (.deferred (some []))) (.loop (rec .ready none));rwa[World.size_alloc]at this
 have hK1:W1.heap[w.heap.size]?=some (.deferred (some [])):=by
  rw[←hW1,heap_alloc,if_neg (by simp)];exact World.alloc_heap_new w _
 have hO1:∀b,own b→W1.heap[b]?=w.heap[b]?:=fun b hb=>by
  have:=(own1 b hb).2.2.1
  rw[←hW1,heap_alloc,if_neg (by simp;omega),heap_alloc,if_neg (by omega)]
 have h3:SR E (lst S V (R []) S.pin) g2 a W1:=by rw[←hW1];exact(h2.alloc _).alloc _
 have prot2:∀b,w.heap.size≤b→g2.K b=.prot:=fun b hb=>Classical.byContradiction fun e=>by have:=(h2.own b e).1;omega
 have hmayL:E.may (w.heap.size+1):=.inl (by omega)
 have hnl:∀b,own b→b≠w.heap.size+1:=fun b hb=>by have:=(own1 b hb).2.2.1;omega
 have hnD:∀b,own b→b≠w.heap.size:=fun b hb=>by have:=(own1 b hb).2.2.1;omega
 refine⟨w.heap.size+1,[mark w.heap.size],W1,{target:=.fn (.func gf) lb,args:= #[.func (.yield (w.heap.size+1)) #[] #[]]},W1,gf,
  #[.func (.yield (w.heap.size+1)) #[] #[]]++lb,W1,?_,?_,fun _ _=>trivial,?_,fun e=>(by cases e),?_⟩
 ·rw[←hW1,hrec];exact run_enterLoop_outer _ _ _ _ _
 ·simp only[resolve,hgv]
  simp[go_sem]
 ·simp[invoke,go_sem,eg]
 have hiter':=hiter (w.heap.size+1)
  (fun pre W=>I pre∧∃g',SR E (lst S V (R pre) S.pin) g' a W∧(∀b,own b→g'.K b=.prot∧g'.fr b=0)∧g'.K (w.heap.size+1)=.prot∧g'.K w.heap.size=.prot∧W.heap[w.heap.size+1]?=some (.loop (rec .ready none))∧W.heap[w.heap.size]?=some (.deferred (some [])))
  (fun W=>∃g' rs,Q .ret (lst S V rs S.pin)∧SR E (lst S V rs S.pin) g' a W∧(∀b,own b→g'.K b=.prot∧g'.fr b=0)∧g'.K (w.heap.size+1)=.prot∧g'.K w.heap.size=.prot∧W.heap[w.heap.size+1]?=some (.loop (rec .done (some .ret)))∧W.heap[w.heap.size]?=some (.deferred (some [])))
  W1 hO1 ?_ ?_ ?_ ⟨hI,g2,h3,own2,prot2 _ (by omega),prot2 _ (Nat.le_refl _),hL1,hK1⟩
 ·-- behind the iterator
  refine CallsIn.mono hiter' ?_
  have ea:({a with defers:=[mark w.heap.size]++a.defers}:Act)=jy [mark w.heap.size] a:=by rw[hS.defers];rfl
  rw[ea]
  rintro e W2 ⟨⟨v,rfl⟩,(⟨hi,g',hs,ho,hkl,hkD,hl,hD⟩|⟨g',rs,hq,hs,ho,hkl,hkD,hl,hD⟩)⟩
  ·refine⟨none,_,by have:=run_endLoop (P:=P) hl (by rw[hrec];simp);rw[hrec]at this;exact this,?_⟩
   exact hrest hi E g' a _ w.heap.size (hs.QS hl rfl rfl hkl hmayL) hkD ((World.putObj_heap_other (by omega)).trans hD) hmono
  ·refine⟨some .ret,_,by have:=run_endLoop (P:=P) hl (by rw[hrec];simp);rw[hrec]at this;exact this,?_⟩
   exact wpIn_ret (.inr ⟨w.heap.size,a,_,g',rfl,hq,hs.QS hl rfl rfl hkl hmayL,hkD,(World.putObj_heap_other (by omega)).trans hD,hmono⟩)
 ·rintro pre A B ⟨hi,g',hs,ho,hkl,hkD,hl,hD⟩ st
  exact⟨hi,g',hs.zfe (fun b hb=>⟨(ho b hb).1,(ho b hb).2,(own1 b hb).2.2.2⟩) st,ho,hkl,hkD,(st.same _ (Array.getElem?_eq_some_iff.1 hl).1 (fun k=>hnl _ k rfl)).trans hl,(st.same _ (Array.getElem?_eq_some_iff.1 hD).1 (fun k=>hnD _ k rfl)).trans hD⟩
 ·rintro A B ⟨g',rs,hq,hs,ho,hkl,hkD,hl,hD⟩ st
  exact⟨g',rs,hq,hs.zfe (fun b hb=>⟨(ho b hb).1,(ho b hb).2,(own1 b hb).2.2.2⟩) st,ho,hkl,hkD,(st.same _ (Array.getElem?_eq_some_iff.1 hl).1 (fun k=>hnl _ k rfl)).trans hl,(st.same _ (Array.getElem?_eq_some_iff.1 hD).1 (fun k=>hnD _ k rfl)).trans hD⟩
 ·-- one round
  rintro pre x A ⟨hi,g',hs,ho,hkl,hkD,hl,hD⟩ hpre
  have hy:=run_yield (P:=P) (args:= #[.string ⟨x.toArray⟩]) hl (by rw[hrec];rfl)
  rw[hrec]at hy
  refine⟨fn,_,assign,body,hy,roundIn_of_wpIn hfn ?_⟩
  have eput:({tmps:=((#[p]:Array Nat).zip #[Value.string ⟨x.toArray⟩]).foldl (fun tmps (x:Nat×Value)=>tmps.setIfInBounds x.1 x.2) a.tmps,defers:=[]}:Act)=a.put (some p) (.string ⟨x.toArray⟩):=by
   have:=hS.defers
   cases a
   simp only at this
   subst this
   simp[Act.put]
  have e1:SR ⟨A,g',hs.gl⟩ (lst S V (R pre) pins) g' a A:=hs.Y5 pins
  have e2:=e1.put (d:=p) (x:=.p (.str x)) (v:=.string ⟨x.toArray⟩) (by simp only[zb,zj]) hp
  rw[←eput]at e2
  refine wpIn_mono (ZV (r:=some (w.heap.size+1)) (n:=0) hm assign hca (hround pre x hi hpre) e2) ?_
  rintro e a1 Wa ⟨S1,g1,hq1,hs1⟩
  cases e with
  |normal=>
   obtain⟨hp1,hbody⟩:=hq1
   have kv1:KV g' A g1 Wa pins:=KV.of hs hs1 hp1
   obtain⟨l1,_,l3⟩:=hs.stays hs1 (Array.getElem?_eq_some_iff.1 hl).1 hkl
   obtain⟨d1,_,d3⟩:=hs.stays hs1 (Array.getElem?_eq_some_iff.1 hD).1 hkD
   have hA:∀b,own b→b<A.heap.size:=fun b hb=>by
    have h4:=(own1 b hb).2.2.1
    have h5:=(Array.getElem?_eq_some_iff.1 hD).1
    omega
   have o1:∀b,own b→Wa.heap[b]?=A.heap[b]?∧g1.K b=.prot∧g1.fr b=0:=fun b hb=>by
    obtain⟨q1,q2,q3⟩:=hs.stays hs1 (hA b hb) (ho b hb).1
    exact⟨q1,q3,q2.trans (ho b hb).2⟩
   have hl1:=l1.trans hl
   have hD1:=d1.trans hD
   have c1:=hs.comp hs1 (fun t ht=>by rw[hp1];exact hpins t ht)
   have hbr:=run_beginRound (P:=P) hl1 (by rw[hrec])
   have c2:=c1.QS (o':=.loop {rec .ready none with state:=.busy}) hl1 rfl rfl l3 hmayL
   have hl2:(Wa.putObj (w.heap.size+1) (.loop {rec .ready none with state:=.busy})).heap[w.heap.size+1]?=some (.loop {rec .ready none with state:=.busy}):=World.putObj_heap_same (Array.getElem?_eq_some_iff.1 hl1).1
   have hD2:(Wa.putObj (w.heap.size+1) (.loop {rec .ready none with state:=.busy})).heap[w.heap.size]?=some (.deferred (some [])):=(World.putObj_heap_other (by omega)).trans hD1
   have e3:=c2.Y5 pins
   rw[St.zif hp1]at e3
   refine⟨_,hbr,wpIn_mono (ZV (r:=some (w.heap.size+1)) (n:=0) hm body hcb hbody e3) ?_⟩
   have kv2:KV g1 Wa g1 (Wa.putObj (w.heap.size+1) (.loop {rec .ready none with state:=.busy})) pins:=KV.QS hl1 rfl rfl
   have fin:∀(jump:Option Code) (S3:St) (g3:Gh) (a3:Act) (W3:World) (hs3:SR ⟨_,g1,c2.gl⟩ S3 g3 a3 W3),S3.pin=pins→
     (Instr.endRound (w.heap.size+1) jump).run P W3=.ok (.bool jump.isNone) (W3.putObj (w.heap.size+1) (.loop (rec (if jump.isNone then .ready else .done) jump)))∧
     SR E (lst S V S3.rs S.pin) g3 a (W3.putObj (w.heap.size+1) (.loop (rec (if jump.isNone then .ready else .done) jump)))∧
     (∀b,own b→g3.K b=.prot∧g3.fr b=0)∧g3.K (w.heap.size+1)=.prot∧g3.K w.heap.size=.prot∧
     (W3.putObj (w.heap.size+1) (.loop (rec (if jump.isNone then .ready else .done) jump))).heap[w.heap.size+1]?=some (.loop (rec (if jump.isNone then .ready else .done) jump))∧
     (W3.putObj (w.heap.size+1) (.loop (rec (if jump.isNone then .ready else .done) jump))).heap[w.heap.size]?=some (.deferred (some []))∧
     (∀b,own b→(W3.putObj (w.heap.size+1) (.loop (rec (if jump.isNone then .ready else .done) jump))).heap[b]?=A.heap[b]?):=fun jump S3 g3 a3 W3 hs3 hp3=>by
    obtain⟨l4,_,l6⟩:=c2.stays hs3 (Array.getElem?_eq_some_iff.1 hl2).1 l3
    obtain⟨d4,_,d6⟩:=c2.stays hs3 (Array.getElem?_eq_some_iff.1 hD2).1 d3
    have hl4:=l4.trans hl2
    have c3:=c2.comp hs3 (fun t ht=>by rw[hp3];exact hpins t ht)
    have kv3:KV _ _ g3 W3 pins:=KV.of c2 hs3 hp3
    have bk:=hs.back c3 ((kv1.trans kv2).trans kv3) rfl
    have eb:kx (lst S V (R pre) S.pin) pins S3.rs=lst S V S3.rs S.pin:=by
     show({(lst S V (R pre) S.pin)with vs:=V.map (fun x=>(x.1,jX pins x.2)),ts:=[],rs:=S3.rs}:St)=_
     rw[hV];rfl
    rw[show kx (lst S V (R pre) S.pin) pins ({S3 with pin:=(lst S V (R pre) S.pin).pin}:St).rs=lst S V S3.rs S.pin from eb]at bk
    have hO:∀b,own b→W3.heap[b]?=A.heap[b]?∧g3.K b=.prot∧g3.fr b=0:=fun b hb=>by
     obtain⟨q1,q2,q3⟩:=o1 b hb
     have hlt:b< (Wa.putObj (w.heap.size+1) (.loop {rec .ready none with state:=.busy})).heap.size:=by
      simp only[World.putObj_size]
      have:=hs1.mono
      have h7:=hA b hb
      have h8:A.heap.size≤Wa.heap.size:=this
      omega
     obtain⟨r1,r2,r3⟩:=c2.stays hs3 hlt q2
     exact⟨r1.trans ((World.putObj_heap_other (hnl b hb)).trans q1),r3,r2.trans q3⟩
    have hrun:=run_endRound (P:=P) jump hl4
    refine⟨?_,bk.QS hl4 rfl rfl l6 hmayL,fun b hb=>(hO b hb).2,l6,d6,World.putObj_heap_same (Array.getElem?_eq_some_iff.1 hl4).1,(World.putObj_heap_other (by omega)).trans (d4.trans hD2),fun b hb=>(World.putObj_heap_other (hnl b hb)).trans (hO b hb).1⟩
    rw[hrec]at hrun⊢
    exact hrun
   rintro e a3 W3 ⟨S2,g3,hq,hs3⟩
   cases e with
   |normal=>
    obtain⟨g4,hs4⟩:=hs3.leR hq.2
    obtain⟨f1,f2,f3,f4,f5,f6,f7,f8⟩:=fin none _ g4 a3 W3 hs4 rfl
    exact⟨_,_,f1,f8,.inl ⟨rfl,hq.1,g4,f2,f3,f4,f5,f6,f7⟩⟩
   |ret=>
    obtain⟨f1,f2,f3,f4,f5,f6,f7,f8⟩:=fin (some .ret) _ g3 a3 W3 hs3 hq.1
    exact⟨_,_,f1,f8,.inr ⟨rfl,g3,S2.rs,hq.2,f2,f3,f4,f5,f6,f7⟩⟩
   |_=>exact hq.elim
  |_=>exact hq1.elim
end Go.AM
end
