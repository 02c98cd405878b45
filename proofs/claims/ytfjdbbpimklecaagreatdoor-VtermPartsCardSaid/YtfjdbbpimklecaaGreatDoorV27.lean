/- A part of this seat's proofs, by an abstract machine. Conditions: each law's. -/
import Derived.Test.YtfjdbbpimklecaaGreatDoorV26
import Derived.RangeFuncRecord
import Derived.Test.YtfjdbbpimklecaaGreatDoorV25
import Derived.Test.YtfjdbbpimklecaaGreatDoorV18
import Derived.Test.YtfjdbbpimklecaaGreatDoorV23
import Derived.Test.YtfjdbbpimklecaaGreatDoorChecked
import Derived.KernelRfl
import Derived.WalkKit
import Derived.Shelf.Spec.SlicesInsert
import Derived.Lib.AppendZerosOnto
import Derived.Laws.NewBlocks
import Derived.Test.YtfjdbbpimklecaaGreatDoorV16
import Derived.ScopeJumps
set_option maxHeartbeats 4000000
set_option maxRecDepth 100000
namespace Go.AM
section
structure zkY(own:Nat→Prop)(A B:World):Prop where
 size:A.heap.size≤B.heap.size
 same:∀b,b<A.heap.size→¬own b→B.heap[b]?=A.heap[b]?
 out:B.os=A.os∧B.tape=A.tape∧B.output=A.output
def Obj.bare:Obj→Bool
 |.loop _=>true
 |.deferred _=>true
 |_=>false
theorem Uz {w:World} {b:Nat} {o:Obj}(h:w.heap[b]?=some o)(ho:Obj.bare o=true):(∀k,w.cell? ⟨b,k,none⟩=none)∧ZV w b=none:=by
 refine⟨fun k=>?_,?_⟩
 ·unfold World.cell?
  cases o<;>simp[Obj.bare]at ho<;>simp[h]
 ·unfold ZV
  cases o<;>simp[Obj.bare]at ho<;>simp[h]
section
variable {g g':Gh} {w w':World}
structure KV(g:Gh)(w:World)(g':Gh)(w':World)(pins:List Tok):Prop where
 ext:Ext g.fr w g'.fr w'
 kr:∀b t,t∈pins→g.K b=.root t→g'.K b=.root t
theorem KV.trans {g3:Gh} {w3:World} {pins:List Tok}(h:KV g w g' w' pins)(k:KV g' w' g3 w3 pins):KV g w g3 w3 pins:=⟨h.ext.trans k.ext,fun b t ht hk=>k.kr b t ht (h.kr b t ht hk)⟩
end
section
variable [Gi] {E:Ent} {S S':St} {g g':Gh} {a a':Act} {w w':World}
theorem SR.zgj(h:SR E S g a w) {l:Nat} {o o':Obj}(hl:w.heap[l]?=some o)(ho:Obj.bare o=true)(ho':Obj.bare o'=true)(hk:g.K l=.prot)(hm:E.may l):SR E S g a (w.putObj l o'):=by
 have hlt:l<w.heap.size:=(Array.getElem?_eq_some_iff.1 hl).1
 have hne:∀c t,g.K c=.root t∨g.K c=.tail t→c≠l:=fun c t hc e=>by subst e;rw[hk]at hc;simp at hc
 have h2:(w.putObj l o').heap[l]?=some o':=World.putObj_heap_same hlt
 refine h.keep (fr':=g.fr) ⟨fun c o ho1=>⟨ho1,?_⟩,fun c t _ hc=>⟨hc,fun _ hb=>Blk.of_heap (World.putObj_heap_other (hne c t (.inl hc))) hb⟩,fun c t _ hc=>⟨hc,rfl,World.putObj_heap_other (hne c t (.inr hc))⟩⟩
  (fun c t hc=>⟨World.putObj_heap_other (hne c t (.inl hc)),rfl⟩) (fun c hc=>⟨World.putObj_heap_other (fun e=>hc (e▸hm)),rfl⟩) ⟨rfl,rfl,rfl⟩ (by simp) (fun c hc=>h.frb c (by simpa using hc))
 by_cases e:c=l
 ·subst e
  obtain⟨a1,a2⟩:=Uz hl ho
  obtain⟨b1,b2⟩:=Uz h2 ho'
  exact⟨by rw[a1,b1],by rw[a2,b2]⟩
 ·exact zP (World.putObj_heap_other e)
end
def mark(D:Nat):Deferred:={target:=.collected D,args:= #[]}
def zbQ [Gi](E:Ent)(Q:Exit→St→Prop):Exit→Act→World→Prop:=fun e a w=>
 post E Q e a w∨∃D b S g,a=zkk [mark D] b∧Q e S∧SR E S g b w∧g.K D=.prot∧w.heap[D]?=some (.deferred (some []))∧E.w0.heap.size≤D
def jJ [Gi](P:Program)(c:Code)(Q:Exit→St→Prop)(S:St):Prop:=∀(E:Ent) (g:Gh) (a:Act) (w:World),SR E S g a w→c.wpIn Fence.wide 0 P (zbQ E Q) a w
section
variable [Gi] {P:Program} {Q:Exit→St→Prop} {S:St}
theorem jJ.kG {D:List Nat}(hm:P.follows .mixedOrders=true) {c:Code}(hc:q7 D c=true)(h:wpA P D c Q S):jJ P c Q S:=
 fun _ _ _ _ hS=>wpIn_mono (wpIn_wide.2 (ZN hm c hc h hS)) fun _ _ _ k=>.inl k
def zcq(P:Program)(y:Code)(Q:Exit→St→Prop):Exit→St→Prop
 |.normal,S'=>jJ P y Q S'
 |e,S'=>Q e S'
@[go_sem] theorem zgk {y : Code} {S' : St} : zcq P y Q .normal S' = jJ P y Q S' := rfl
@[go_sem] theorem zjz {y : Code} {S' : St} : zcq P y Q .ret S' = Q .ret S' := rfl
theorem jJ.seq {D:List Nat}(hm:P.follows .mixedOrders=true) {x y:Code}(hc:q7 D x=true)(h:wpA P D x (zcq P y Q) S):jJ P (.seq x y) Q S:=by
 intro E g a w hS
 refine wpIn_seq (wpIn_mono (wpIn_wide.2 (ZN hm x hc h hS)) ?_)
 rintro e a' w' ⟨S',g',hq,hs⟩
 cases e with
 |normal=>exact hq E g' a' w' hs
 |_=>exact .inl ⟨S',g',hq,hs⟩
def zki [Gi](P:Program)(b c:Code)(Q:Exit→St→Prop)(S:St):Prop:=∀(E:Ent) (g:Gh) (a:Act) (w:World),SR E S g a w→b.wpIn Fence.wide 0 P (Exit.then (c.wpIn Fence.wide 0 P (zbQ E Q)) (zbQ E Q)) a w
def zhN(P:Program)(b c:Code)(Q:Exit→St→Prop):Exit→St→Prop
 |.normal,S'=>zki P b c Q S'
 |e,S'=>Q e S'
@[go_sem] theorem zgP {b c : Code} {S' : St} : zhN P b c Q .normal S' = zki P b c Q S' := rfl
@[go_sem] theorem zjw {b c : Code} {S' : St} : zhN P b c Q .ret S' = Q .ret S' := rfl
theorem KX {f:FuncId} {fn:Func} {c:Code} {ts:List (Nat×Option TypeId)}(nv:Nat)(ex:List Nat)(hf:P.funcs[f]?=some fn)(hb:fn.body=some c)
  (hres:xQ fn.results.toList=some ts) {pin:List Tok} {args:List AV} {rs:List (Tok×List AV)} {R:AV→List (Tok×List AV)→Prop} (hnv:args.length≤nv) (hn:args.length≤fn.ntmps)
  (h:jJ P c (y9 P pin ts R) {n:=fn.ntmps,nv:=nv,vs:=wm 0 args,ts:=[],rs:=rs,pin:=pin,ex:=ex}):CR P f pin args rs R:=by
 intro w g vs hargs hG
 have hlen:vs.length=args.length:=by
  have h0:args.length≤nv:=hnv
  clear h0 h hnv hn
  induction args generalizing vs with
  |nil=>simp only[zm]at hargs;subst hargs;rfl
  |cons x xs ih=>simp only[zm]at hargs;obtain⟨v,vs',rfl,_,h2⟩:=hargs;simp[ih vs' h2]
 let E:Ent:=⟨w,g,hG.gl⟩
 have hS:SR E {n:=fn.ntmps,nv:=nv,vs:=wm 0 args,ts:=[],rs:=rs,pin:=pin,ex:=ex} g {tmps:=vs.toArray++Array.replicate (fn.ntmps-vs.toArray.size) undef,defers:=[]} w:=by
  refine⟨by simp;omega,rfl,fun t=>?_,hG.roots,hG.ur,hG.ut,fun b hb=>⟨hG.own b hb,.inr hb⟩,fun b _=>⟨rfl,rfl⟩,Ext.refl _ _,⟨rfl,rfl,rfl⟩,Nat.le_refl _,hG.frb,fun b t hk _=>⟨hk,fun _ hn=>hn⟩⟩
  unfold St.get
  split
  ·simp only[Wy,Nat.zero_le,if_true,Nat.sub_zero]
   cases hx:args[t]? with
   |none=>simp only[qV,za]
   |some x=>
    simp only[qV]
    obtain⟨v,hv,hr⟩:=hargs.get hx
    have hvl:=(List.getElem?_eq_some_iff.1 hv).1
    have:(vs.toArray++Array.replicate (fn.ntmps-vs.toArray.size) undef).getD t undef=v:=by
     simp[Array.getD_eq_getD_getElem?,Array.getElem?_append,hvl]
     have:=(List.getElem?_eq_some_iff.1 hv).2
     exact this
    rw[this];exact hr
  ·simp only[look,qV,za]
 refine(callsIn_wide (n:=0)).1 (callsIn_of_wp_marks hf hb trivial (wpIn_mono (h E g _ w hS) ?_))
 rintro e a' w' hpost
 have fin:wo P pin ts R=wo P pin ts R:=rfl
 have ends:∀u,(u=Exit.normal∨u=Exit.ret)→zbQ E (y9 P pin ts R) u a' w'→bodyPostM Fence.wide 0 P fn (fun e w'=>∃v x rs' g',e=.returned v∧R x rs'∧za g' w' x v∧GS g' w' rs'∧Aft g w g' w' pin) u a' w':=by
  rintro u hu (⟨S',g',hq,hs⟩|⟨D,b,S',g',rfl,hq,hs,hk,hD,hlt⟩)
  ·have hq':wo P pin ts R S':=by rcases hu with rfl|rfl<;>exact hq
   obtain⟨v,h1,h2⟩:=Yq hres hs hq'
   have:=hs.defers
   rcases hu with rfl|rfl<;>·simp only[bodyPostM,this,LeavesInM,LeavesIn];exact⟨v,h1,v,by obtain⟨v',x,rs',g'',e,r⟩:=h2;injection e with e;subst e;exact⟨x,rs',g'',rfl,r⟩⟩
  ·have hq':wo P pin ts R S':=by rcases hu with rfl|rfl<;>exact hq
   have hs2:=hs.zgj (o':=.deferred none) hD rfl rfl hk (.inl hlt)
   obtain⟨v,h1,h2⟩:=Yq hres hs2 hq'
   have goal:LeavesInM Fence.wide 0 P fn b.tmps (fun e w'=>∃v x rs' g',e=.returned v∧R x rs'∧za g' w' x v∧GS g' w' rs'∧Aft g w g' w' pin) [mark D] .returning w':=by
    refine⟨by simp,.inl ⟨D,_,rfl,run_takeDeferred hD,?_⟩⟩
    simp only[LeavesInM,LeavesIn]
    exact⟨v,h1,v,by obtain⟨v',x,rs',g'',e,r⟩:=h2;injection e with e;subst e;exact⟨x,rs',g'',rfl,r⟩⟩
   rcases hu with rfl|rfl<;>exact goal
 cases e with
 |normal=>exact ends _ (.inl rfl) hpost
 |ret=>exact ends _ (.inr rfl) hpost
 |panic ch=>rcases hpost with ⟨S',g',hq,_⟩|⟨_,_,S',g',_,hq,_⟩<;>exact hq.elim
 |exit i=>rcases hpost with ⟨S',g',hq,_⟩|⟨_,_,S',g',_,hq,_⟩<;>exact hq.elim
 |goto i=>rcases hpost with ⟨S',g',hq,_⟩|⟨_,_,S',g',_,hq,_⟩<;>exact hq.elim
 |outgrown=>rcases hpost with ⟨S',g',hq,_⟩|⟨_,_,S',g',_,hq,_⟩<;>exact hq.elim
end
def lst(S:St)(V:List (Nat×AV))(rs:List (Tok×List AV))(pin:List Tok):St:={S with vs:=V,ts:=[],rs:=rs,pin:=pin}
def zer(S:St)(V:List (Nat×AV))(pins:List Tok)(I:Prop)(next:List (Tok×List AV))(Q:Exit→St→Prop):Exit→St→Prop
 |.normal,S2=>I∧LeR S2 (lst S [] next pins)
 |.ret,S2=>S2.pin=pins∧Q .ret (lst S V S2.rs S.pin)
 |_,_=>False
def zhe(pins:List Tok)(K:St→Prop):Exit→St→Prop
 |.normal,S1=>S1.pin=pins∧K S1
 |_,_=>False
@[go_sem] theorem zgc {S : St} {V : List (Nat × AV)} {pins : List Tok} {I : Prop} {next : List (Tok × List AV)} {Q : Exit → St → Prop} {S2 : St} : zer S V pins I next Q .normal S2 = (I ∧ LeR S2 (lst S [] next pins)) := rfl
@[go_sem] theorem zjh {S : St} {V : List (Nat × AV)} {pins : List Tok} {I : Prop} {next : List (Tok × List AV)} {Q : Exit → St → Prop} {S2 : St} : zer S V pins I next Q .ret S2 = (S2.pin = pins ∧ Q .ret (lst S V S2.rs S.pin)) := rfl
@[go_sem] theorem zfP {pins : List Tok} {K : St → Prop} {S1 : St} : zhe pins K .normal S1 = (S1.pin = pins ∧ K S1) := rfl
def qL [Gi](P:Program)(E:Ent)(c:Code)(Q:Exit→St→Prop)(S:St):Prop:=∀(g:Gh) (a:Act) (w:World),SR E S g a w→c.wp P (post E Q) a w
section
variable [Gi] {P:Program} {E:Ent} {Q:Exit→St→Prop} {S:St}
theorem qL.kG {D:List Nat}(hm:P.follows .mixedOrders=true) {c:Code}(hc:q7 D c=true)(h:wpA P D c Q S):qL P E c Q S:=fun _ _ _ hS=>ZN hm c hc h hS
def X6(P:Program)(E:Ent)(y:Code)(Q:Exit→St→Prop):Exit→St→Prop
 |.normal,S'=>qL P E y Q S'
 |e,S'=>Q e S'
@[go_sem] theorem zgE {y : Code} {S' : St} : X6 P E y Q .normal S' = qL P E y Q S' := rfl
@[go_sem] theorem zjL {y : Code} {S' : St} : X6 P E y Q .ret S' = Q .ret S' := rfl
@[go_sem] theorem zhZ {y : Code} {S' : St} {i : Nat} : X6 P E y Q (.exit i) S' = Q (.exit i) S' := rfl
theorem qL.seq {x y:Code}(h:qL P E x (X6 P E y Q) S):qL P E (.seq x y) Q S:=fun g a w hS=>by
 refine wp_seq (wp_mono (h g a w hS) ?_)
 rintro e a' w' ⟨S',g',hq,hs⟩
 cases e with
 |normal=>exact hq g' a' w' hs
 |_=>exact⟨S',g',hq,hs⟩
theorem qL.Vj {D:List Nat}(hm:P.follows .mixedOrders=true) {x y:Code}(hc:q7 D x=true)(h:wpA P D x (X6 P E y Q) S):qL P E (.seq x y) Q S:=.seq (.kG hm hc h)
theorem qL.block {id:Nat} {c:Code}(h:qL P E c (zdH id Q) S):qL P E (.block id c) Q S:=fun g a w hS=>by
 refine wp_block (wp_mono (h g a w hS) ?_)
 rintro e a' w' ⟨S',g',hq,hs⟩
 cases e with
 |exit i=>
  simp only[Exit.inBlock]
  simp only[zdH]at hq
  split
  ·rename_i hi;rw[if_pos hi]at hq;exact⟨S',g',hq,hs⟩
  ·rename_i hi;rw[if_neg hi]at hq;exact⟨S',g',hq,hs⟩
 |_=>exact⟨S',g',hq,hs⟩
end
def zcn {ι:Type}(inv:ι→Prop)(st:ι→St)(m:ι→Nat)(i:ι)(Q:Exit→St→Prop):Exit→St→Prop
 |.normal,S'=>∃j,inv j∧LeR S' (st j)∧m j<m i
 |e,S'=>Q e S'
@[go_sem] theorem zjm {Q : Exit → St → Prop} {ι : Type} {inv : ι → Prop} {st : ι → St} {m : ι → Nat} {i : ι} {k : Nat} {S' : St} : zcn inv st m i Q (.exit k) S' = Q (.exit k) S' := rfl
@[go_sem] theorem zjH {Q : Exit → St → Prop} {ι : Type} {inv : ι → Prop} {st : ι → St} {m : ι → Nat} {i : ι} {S' : St} : zcn inv st m i Q .ret S' = Q .ret S' := rfl
theorem za7 {Q:Exit→St→Prop} {ι:Type} {inv:ι→Prop} {st:ι→St} {m:ι→Nat} {i:ι} {S':St}(j:ι)(h1:inv j)(h2:LeS S' (st j))(h3:m j<m i):zcn inv st m i Q .normal S':=⟨j,h1,.inl h2,h3⟩
section
variable [Gi] {P:Program} {E:Ent} {Q:Exit→St→Prop} {S:St}
theorem qL.loop {c:Code} {ι:Type}(inv:ι→Prop)(st:ι→St)(m:ι→Nat)(i:ι)(hi:inv i)(h0:LeS S (st i))(h:∀i,inv i→qL P E c (zcn inv st m i Q) (st i)):qL P E (.loop c) Q S:=fun g a w hS=>by
 obtain⟨g0,h0⟩:=hS.le h0
 refine VN (fun i a w=>inv i∧∃g,SR E (st i) g a w) m (i₀:=i) ⟨hi,g0,h0⟩ ?_
 rintro i a w ⟨hi,g,hs⟩
 refine wp_mono (h i hi g a w hs) ?_
 rintro e a' w' ⟨S',g',hq,hs'⟩
 cases e with
 |normal=>
  obtain⟨j,hj,hl,hlt⟩:=hq
  obtain⟨g'',h''⟩:=hs'.leR hl
  exact⟨j,⟨hj,g'',h''⟩,hlt⟩
 |_=>exact⟨S',g',hq,hs'⟩
theorem qL.zfS {c:Operand} {x y:Code}(hv:S.ev c=.p (.bool true))(h:qL P E x Q S):qL P E (.cond c x y) Q S:=fun g a w hS=>by
 have hr:=hS.ev c
 rw[hv]at hr
 simp only[za,zi]at hr
 exact wp_cond_true hr (h g a w hS)
theorem qL.zhA {c:Operand} {x y:Code}(hv:S.ev c=.p (.bool false))(h:qL P E y Q S):qL P E (.cond c x y) Q S:=fun g a w hS=>by
 have hr:=hS.ev c
 rw[hv]at hr
 simp only[za,zi]at hr
 exact wp_cond_false hr (h g a w hS)
end
section
variable [Gi] {P:Program} {E:Ent} {Q:Exit→St→Prop} {S:St}
end
def zkl(pins:List Tok)(R:List (Tok×List AV)→Prop):Exit→St→Prop
 |.normal,S=>S.pin=pins∧R S.rs
 |.ret,S=>S.pin=pins∧R S.rs
 |_,_=>False
@[go_sem] theorem zhS {pins : List Tok} {R : List (Tok × List AV) → Prop} {S : St} : zkl pins R .normal S = (S.pin = pins ∧ R S.rs) := rfl
@[go_sem] theorem zjX {pins : List Tok} {R : List (Tok × List AV) → Prop} {S : St} : zkl pins R .ret S = (S.pin = pins ∧ R S.rs) := rfl
end
end Go.AM
namespace Go.Proofs.YtfjdbbpimklecaaGreatDoor
section
open Go.AM
def q9(l:List Int):PV:=.sl 1 (qO l)
theorem zc5(l:List Int):(qO l).flatMap PV.cells=qO l:=by
 unfold qO
 exact WU l
theorem Q5(l:List Int):(qO l).length=l.length:=by simp[qO]
theorem zcF(l:List Int):(qO l).map AV.p=Yj l:=rfl
theorem zbf [Gi](l:List Int)(h0:l≠ [])(hn:l.length<2^40):CR Tryz.prog 208 [] [.p (q9 l)] [] (fun x rs=>x=.la [7] 1 0 l.length∧rs=[([7],Yj l)]):=by
 refine QX [] mixed 3 [] Tryz.func208 rfl (by kernel_rfl) [5] rfl (by simp) (by simp) ?_
 obtain⟨y,l',rfl⟩:∃y l',l=y::l':=by
  cases l with
  |nil=>exact absurd rfl h0
  |cons y l'=>exact⟨y,l',rfl⟩
 simp (maxSteps:=1000000) [go_sem,Tryz.f208,q9,qO]
 simp only[List.length_cons]at hn
 exact⟨by omega,zt [[7]] (.la [7] 1 0 (l'.length+1)) ⟨rfl,by simp⟩ (by simp[go_sem,zg,leA,leT]) ⟨rfl,by simp[go_sem,WU,Yj]⟩⟩
theorem CR.row [Gi] {P:Program} {fn:FuncId} {args:List AV} {t:Tok} {M:List Int}(h0:0<M.length)(h:CR P fn [] args [] (fun x rs=>x=.la t 1 0 M.length∧rs=[(t,Yj M)])):CR P fn [] args [] (is (.p (q9 M))):=by
 refine CR.freeze h (fun _=>false) rfl ?_
 rintro x rs ⟨rfl,rfl⟩
 refine⟨.p (q9 M),fun g w v hG hv=>?_,rfl,rfl⟩
 rw[Yg]
 refine Jh (t:=t) (z:=1) (n:=M.length) (es:=qO M) (rt:=fun _=>false) hG [] h0 ?_ rfl (by simp[qO]) (fun e he=>?_) hv
 ·rw[zc5];simp[zw,zcF]
 ·obtain⟨s,_,rfl⟩:=List.mem_map.1 he
  exact⟨rfl,rfl⟩
def j5:xi:=⟨false,0,0,0,false⟩
def xb(t:qX):xi→List Int→Nat
 |_,[]=>0
 |s,r::l=>if(ZK t s r).2 then 0 else 1+xb t (ZK t s r).1 l
theorem zck(t:qX):∀(l:List Int) (s:xi),xb t s l≤l.length
 | [],_=>by simp[xb]
 |r::l,s=>by
  unfold xb
  split
  ·omega
  ·have:=zck t l (ZK t s r).1
   simp only[List.length_cons];omega
def zhI:OT:=.now 0 1 (.now 1 1 (.now 2 1 (.now 3 1 (.now 4 1 (.now 5 1 (.mk [(6,.now 7 1 (.now 8 1 (.now 9 2 (.mk [(10,.mk [(11,.now 12 0 (.mk []))])])))),(10,.mk [(6,.now 7 0 (.now 8 0 (.now 9 2 (.mk [(11,.now 12 0 (.mk []))]))))])]))))))
def zig(s:xi):List AV:=[.p (.bool s.some),.p (.int .i64 s.last),.p (.int .i64 s.pict),.p (.int .i64 s.conj),.p (.bool s.odd)]
theorem zhc [Gi] {t:qX} {c b j f p:PV}(h:uv t c b j f p)(hz:W0 t)(ck cx sk sx:List PV)(l:List Int)(hn:l.length<2^31)(hr:∀x∈l,Zd x)(a:Nat)(x:Int)(l':List Int)(ha:l.drop a=x::l'):
  CR Tryz.prog 207 [] [.p (Q0 c b j f p ck cx sk sx),.p (q9 l),.p (.int .i64 a)] [] (is (.p (.int .i64 ((a+1+xb t (ZK t j5 x).1 l':Nat):Int)))):=by
 have hal:a<l.length:=by
  have:=congrArg List.length ha
  simp at this;omega
 have hx:l[a]=x:=by
  have:=List.drop_eq_getElem_cons hal
  rw[ha]at this
  injection this with h1 _;exact h1.symm
 have hl':l'=l.drop (a+1):=by
  have:=List.drop_eq_getElem_cons hal
  rw[ha]at this
  injection this
 have hxr:Zd x:=hr x (by rw[←hx];exact List.getElem_mem _)
 have em:elemAt (qO l) a=.int .i32 x:=by rw[qO,zu (fun r=>PV.int .i32 r) l a hal,hx]
 obtain⟨N,hN⟩:∃N,N=a+1+xb t (ZK t j5 x).1 l':=⟨_,rfl⟩
 rw[←hN]
 refine zN [200007] mixed 11 [] Tryz.func207 rfl (by kernel_rfl) rfl (by simp) (by simp) ?_
 have w1:IntKind.i64.wrap ((a:Int)+1)=((a+1:Nat):Int):=qD (by omega)
 have g1:¬(a:Int)<0:=by omega
 have g2:¬((l.length:Int)≤a):=by omega
 have g3:(a:Int)<l.length:=by omega
 simp (maxSteps:=1000000) [go_sem,Tryz.f207,q9,Q5,Q0,g1,g2,g3,em]
 refine⟨⟨rfl,by simp[Tryz.f171]⟩,zh [] (JP h hz ck cx sk sx j5 x hxr) (by simp[go_sem]) ⟨by simp[go_sem],by simp[go_sem,xz,j5,Q0]⟩ (by simp[go_sem]) ?_⟩
 rintro _ rs ⟨rfl,rfl⟩
 have hso:∀s r,(ZK t s r).1.some=true:=fun _ _=>rfl
 obtain⟨s0,hs0⟩:∃s0,(ZK t j5 x).1=s0:=⟨_,rfl⟩
 rw[hs0]at hN⊢
 generalize (ZK t j5 x).2=cut0
 simp (maxSteps:=1000000) [go_sem,xz,w1]
 refine zF (fun r:Nat×xi=>N=r.1+xb t r.2 (l.drop r.1)∧r.1≤l.length) (fun r=>[(2,.p (.int .i64 (r.1:Nat))),(9,.zK),(10,.zK)]) (fun r=>[([7],zig r.2)]) (fun r=>l.length-r.1) (a+1,s0) ⟨by rw[hN,hl'],by simp only;omega⟩ (by simp[go_sem,LeS,leV,leR,leA,leL,zig]) (fun r hr2=>?_)
 obtain⟨i,s⟩:=r
 obtain⟨p1,p2⟩:=hr2
 simp only at p1 p2
 by_cases hil:i<l.length
 ·obtain⟨y,hy⟩:∃y,l[i]=y:=⟨_,rfl⟩
  have hyr:Zd y:=hr y (by rw[←hy];exact List.getElem_mem _)
  have em2:elemAt (qO l) i=.int .i32 y:=by rw[qO,zu (fun r=>PV.int .i32 r) l i hil,hy]
  have hdr:l.drop i=y::l.drop (i+1):=by rw[←hy];exact List.drop_eq_getElem_cons hil
  have g4:(i:Int)<l.length:=by omega
  have w2:IntKind.i64.wrap ((i:Int)+1)=((i+1:Nat):Int):=qD (by omega)
  have hend:(ZK t s y).2=true→N=i:=fun e=>by rw[p1,hdr,xb,if_pos e];rfl
  have hgo:(ZK t s y).2=false→N=(i+1)+xb t (ZK t s y).1 (l.drop (i+1)):=fun e=>by rw[p1,hdr,xb,if_neg (by rw[e];simp)];omega
  simp (maxSteps:=1000000) [go_sem,Q5,g4,zig]
  refine ZC zhI (by kernel_rfl) ?_
  simp (maxSteps:=1000000) [go_sem,zhI,Q5,g4,em2]
  refine⟨⟨⟨rfl,by simp[Tryz.f171]⟩,zh [] (JP h hz ck cx sk sx s y hyr) (by simp[go_sem]) ⟨by simp[go_sem],by simp[go_sem,xz,Q0]⟩ (by simp[go_sem]) ?_⟩,⟨⟨rfl,by simp[Tryz.f171]⟩,zh [] (JP h hz ck cx sk sx s y hyr) (by simp[go_sem]) ⟨by simp[go_sem],by simp[go_sem,xz,Q0]⟩ (by simp[go_sem]) ?_⟩⟩
  ·rintro _ rs ⟨rfl,rfl⟩
   generalize ZK t s y=q at hend hgo
   obtain⟨s2,ct⟩:=q
   cases ct with
   |true=>
    have e:=hend rfl
    rw[e]
    simp (maxSteps:=1000000) [go_sem,xz]
    exact zn (.p (.int .i64 (i:Nat))) rfl (by simp[go_sem,zg,leA,leT]) ⟨rfl,rfl⟩
   |false=>
    have e:=hgo rfl
    simp (maxSteps:=1000000) [go_sem,xz,w2]
    exact zj (i+1,s2) ⟨e,by show i+1≤l.length;omega⟩ (by simp[go_sem,LeS,leV,leR,leA,leL]) (by show l.length- (i+1)<l.length-i;omega)
  ·rintro _ rs ⟨rfl,rfl⟩
   generalize ZK t s y=q at hend hgo
   obtain⟨s2,ct⟩:=q
   cases ct with
   |true=>
    have e:=hend rfl
    rw[e]
    simp (maxSteps:=1000000) [go_sem,xz]
    exact zn (.p (.int .i64 (i:Nat))) rfl (by simp[go_sem,zg,leA,leT]) ⟨rfl,rfl⟩
   |false=>
    have e:=hgo rfl
    simp (maxSteps:=1000000) [go_sem,xz,w2]
    exact zj (i+1,s2) ⟨e,by show i+1≤l.length;omega⟩ (by simp[go_sem,LeS,leV,leR,leA,leL]) (by show l.length- (i+1)<l.length-i;omega)
 ·have g4:¬(i:Int)<l.length:=by omega
  have e:N=i:=by rw[p1,List.drop_eq_nil_of_le (by omega)];rfl
  rw[e]
  simp (maxSteps:=1000000) [go_sem,Q5,g4]
  exact zn (.p (.int .i64 (i:Nat))) rfl (by simp[go_sem,zg,leA,leT]) ⟨rfl,rfl⟩
def yU(t:qX):Nat→List Int→List (List Int)
 |0,_=>[]
 |_,[]=>[]
 |n+1,r::l=>(r::l.take (xb t (ZK t j5 r).1 l))::yU t n (l.drop (xb t (ZK t j5 r).1 l))
def xr(t:qX)(l:List Int):List (List Int):=yU t l.length l
theorem WG(t:qX):∀(n m:Nat) (l:List Int),l.length≤n→l.length≤m→yU t n l=yU t m l
 |0,m,l,h1,h2=>by
  obtain rfl:l=[]:=List.eq_nil_of_length_eq_zero (by omega)
  cases m<;>rfl
 |n+1,0,l,h1,h2=>by
  obtain rfl:l=[]:=List.eq_nil_of_length_eq_zero (by omega)
  rfl
 |n+1,m+1,[],h1,h2=>rfl
 |n+1,m+1,r::l,h1,h2=>by
  simp only[List.length_cons]at h1 h2
  simp only[yU]
  rw[WG t n m _ (by rw[List.length_drop];omega) (by rw[List.length_drop];omega)]
theorem zbu(t:qX)(r:Int)(l:List Int):xr t (r::l)=(r::l.take (xb t (ZK t j5 r).1 l))::xr t (l.drop (xb t (ZK t j5 r).1 l)):=by
 unfold xr
 simp only[List.length_cons,yU]
 rw[WG t l.length _ _ (by rw[List.length_drop];omega) (Nat.le_refl _)]
structure Cst where
 o:List Int
 s:Int
 l:Int
def zhH(k:Int→Int)(z:Cst)(r:Int):Prop:=0≤z.s∧(z.s=z.o.length-1∨(z.l≠0∧z.l<k r))
instance (k:Int→Int)(z:Cst)(r:Int):Decidable (zhH k z r):=by unfold zhH;infer_instance
structure zlA(z:Cst)(n:Nat):Prop where
 lo: -1≤z.s
 hi:z.s<z.o.length
 nn:z.o.length≤n
 ne:0<n→z.o≠ []
def xy(L:List (List Int)):List PV:=L.map q9
def Wm(L:List (List Int)):PV:=.sl 1 (xy L)
theorem zfv [Gi](l:List Int)(h0:l≠ [])(hn:l.length<2^40):CR Tryz.prog 208 [] [.p (q9 l)] [] (is (.p (q9 l))):=CR.row (List.length_pos_iff.2 h0) (zbf l h0 hn)
end
section
open Go.RowKit Go.Lib
end
section
open Go.AM
def zfa(a b:Int):Option Int:=
 if 4352≤a∧a≤4370∧4449≤b∧b≤4469 then some (44032+(a-4352)*588+(b-4449)*28)
 else if zdq a=true∧(a-44032)%28=0∧4520≤b∧b≤4546 then some (a+(b-4519))else none
def vR(l:List Row):Nat→Int→List Int
 |0,r=>if zdq r then Wk r else [r]
 |d+1,r=>if zdq r then Wk r else
  match Xz l r with
  |none=>[r]
  |some p=>vR l d p.1++(if p.2=0 then []else vR l d p.2)
theorem u4(l:List Row):∀d r,(vR l d r).length≤3*2^d
 |0,r=>by
  unfold vR
  split
  ·unfold Wk;split<;>simp
  ·simp
 |d+1,r=>by
  have h3:1≤2^d:=Nat.one_le_two_pow
  unfold vR
  rw[Nat.pow_succ]
  split
  ·unfold Wk;split<;>simp<;>omega
  ·split
   ·simp;omega
   ·rename_i p _
    have h1:=u4 l d p.1
    have h2:=u4 l d p.2
    split
    ·simp;omega
    ·simp;omega
def xj(k:Int→Int)(x:Int):List Int→List Int
 | []=>[x]
 |y::l=>if k x≠0∧k x<k y then y::xj k x l else x::y::l
def zdE(k:Int→Int)(O:List Int)(x:Int):List Int:=(xj k x O.reverse).reverse
def zgt(k:Int→Int)(l:List Int):List Int:=l.foldl (zdE k) []
theorem UF(k:Int→Int)(x:Int):∀l,(xj k x l).length=l.length+1
 | []=>rfl
 |y::l=>by unfold xj;split<;>simp[UF k x l]
theorem zgb(k:Int→Int)(O:List Int)(x:Int):(zdE k O x).length=O.length+1:=by simp[zdE,UF]
theorem zfj(k:Int→Int)(l:List Int):(zgt k l).length=l.length:=by
 suffices H:∀(l O:List Int),(l.foldl (zdE k) O).length=O.length+l.length by simpa[zgt]using H l []
 intro l
 induction l with
 |nil=>intro O;rfl
 |cons x l ih=>intro O;rw[List.foldl_cons,ih,zgb,List.length_cons];omega
def kD(rows:List Row)(x:Int):Int:=aL rows 1 x
def V0(rows:List Row)(l:List Int):List Int:=l.flatMap (vR rows 8)
def zcS(rows:List Row)(l:List Int):List Int:=zgt (kD rows) (V0 rows l)
theorem zbq(rows:List Row)(l:List Int):(V0 rows l).length≤768*l.length:=by
 induction l with
 |nil=>simp[V0]
 |cons x l ih=>
  have:=u4 rows 8 x
  simp only[V0,List.flatMap_cons,List.length_append,List.length_cons]at*
  omega
theorem vC {rows:List Row}(hrw:j8 rows):∀d r,Zd r→∀x∈vR rows d r,Zd x
 |0,r,hr,x,hx=>by
  unfold vR at hx
  split at hx
  ·rename_i hs
   have hs':44032≤r∧r<55204:=by simpa[zdq]using hs
   unfold Wk at hx
   unfold Zd
   split at hx<;>simp at hx<;>omega
  ·rw[List.mem_singleton.1 hx];exact hr
 |d+1,r,hr,x,hx=>by
  unfold vR at hx
  split at hx
  ·rename_i hs
   have hs':44032≤r∧r<55204:=by simpa[zdq]using hs
   unfold Wk at hx
   unfold Zd
   split at hx<;>simp at hx<;>omega
  ·split at hx
   ·rw[List.mem_singleton.1 hx];exact hr
   ·rename_i p hp
    have hb:=zeY hrw hp
    rcases List.mem_append.1 hx with hx|hx
    ·exact vC hrw d _ ⟨by omega,by omega⟩ x hx
    ·split at hx
     ·simp at hx
     ·exact vC hrw d _ ⟨by omega,by omega⟩ x hx
theorem zad {rows:List Row}(hrw:j8 rows) {l:List Int}(hl:∀x∈l,Zd x):∀x∈V0 rows l,Zd x:=fun x hx=>by
 obtain⟨r,hr,hx⟩:=List.mem_flatMap.1 hx
 exact vC hrw 8 r (hl r hr) x hx
def ziE(k:Int→Int)(o:List Int):Int×Int:=o.foldl (fun(p:Int×Int) y=>(p.1+1,if k y=0 then p.1 else p.2)) (0, -1)
def vE(k:Int→Int)(o:List Int):Int:=(ziE k o).2
theorem zaR(k:Int→Int):vE k []= -1:=rfl
def zkS(k:Int→Int)(o:List Int)(a x:Int):Bool:=decide (a=o.length-1) || decide (k (o[o.length-1]?.getD 0)<k x)
def mkD(rows:List Row)(a b:Int):Option Int:=(zfa a b).or (zhR rows a b)
def Va(k:Int→Int)(mk:Int→Int→Option Int)(O:List Int)(x:Int):List Int:=
 if 0≤vE k O∧zkS k O (vE k O) x=true then match mk (O[(vE k O).toNat]?.getD 0) x with
  |some r=>O.set (vE k O).toNat r
  |none=>O++[x]
 else O++[x]
def JK(k:Int→Int)(mk:Int→Int→Option Int)(l:List Int):List Int:=l.foldl (Va k mk) []
theorem zaU {rows:List Row}(hrw:j8 rows)(x y:Int):∀z,zhR rows x y=some z→Zd z:=by
 suffices H:∀(l:List Row) (a:Option Int),(∀w∈l,w∈rows)→(∀z,a=some z→Zd z)→∀z,l.foldl (VE rows x y) a=some z→Zd z by
  exact H rows none (fun _ h=>h) (fun z h=>by cases h)
 intro l
 induction l with
 |nil=>intro a _ ha z hz;exact ha z hz
 |cons w l ih=>
  intro a hw ha z hz
  refine ih _ (fun v hv=>hw v (by simp[hv])) (fun u hu=>?_) z hz
  unfold VE at hu
  split at hu
  ·rename_i hc
   injection hu with hu;subst hu
   have:=hrw.p w (hw w (by simp)) hc.1
   exact⟨by omega,by omega⟩
  ·exact ha u hu
theorem ze6 {rows:List Row}(hrw:j8 rows) {x y z:Int}(h:mkD rows x y=some z):Zd z:=by
 unfold mkD at h
 cases hj:zfa x y with
 |none=>rw[hj]at h;exact zaU hrw x y z h
 |some q=>
  rw[hj]at h
  simp only[Option.some_or,Option.some.injEq]at h
  subst h
  unfold zfa at hj
  split at hj
  ·injection hj with hj;exact⟨by omega,by omega⟩
  ·split at hj
   ·rename_i hc
    have hs':44032≤x∧x<55204:=by simpa[zdq]using hc.1
    injection hj with hj;exact⟨by omega,by omega⟩
   ·cases hj
structure xk(o:List Int)(n:Nat):Prop where
 nn:o.length≤n
 ne:0<n→o≠ []
 r:∀x∈o,Zd x
theorem xk.push {o:List Int} {n:Nat}(h:xk o n) {x:Int}(hx:Zd x):xk (o++[x]) (n+1):=
 ⟨by simp;exact h.nn,by simp,fun y hy=>by rcases List.mem_append.1 hy with hy|hy;exact h.r y hy;rw[List.mem_singleton.1 hy];exact hx⟩
theorem xk.set {o:List Int} {n:Nat}(h:xk o n)(h0:o≠ []) {j:Nat} {x:Int}(hx:Zd x):xk (o.set j x) (n+1):=
 ⟨by simp;have:=h.nn;omega,fun _ e=>h0 (by have:=congrArg List.length e;rw[List.length_set,List.length_nil]at this;exact List.eq_nil_of_length_eq_zero this),fun y hy=>by rcases List.mem_or_eq_of_mem_set hy with hy|rfl;exact h.r y hy;exact hx⟩
theorem zga {rows:List Row}(hrw:j8 rows) {o:List Int} {n:Nat}(h:xk o n) {x:Int}(hx:Zd x):xk (Va (kD rows) (mkD rows) o x) (n+1):=by
 unfold Va
 split
 ·rename_i hf
  split
  ·rename_i r hr
   refine h.set (fun e=>?_) (ze6 hrw hr)
   rw[e,zaR]at hf
   have:=hf.1
   simp at this
  ·exact h.push hx
 ·exact h.push hx
theorem zcN {rows:List Row}(hrw:j8 rows)(l:List Int)(hl:∀x∈l,Zd x):xk (JK (kD rows) (mkD rows) l) l.length:=by
 suffices H:∀(l':List Int) (o:List Int) (n:Nat),(∀x∈l',Zd x)→xk o n→xk (l'.foldl (Va (kD rows) (mkD rows)) o) (n+l'.length) by
  have:=H l [] 0 hl ⟨by simp,by simp,by simp⟩
  simpa[JK]using this
 intro l'
 induction l' with
 |nil=>intro o n _ h;simpa using h
 |cons x l' ih=>
  intro o n hl h
  have:=ih _ _ (fun y hy=>hl y (by simp[hy])) (zga hrw h (hl x (by simp)))
  simpa[Nat.add_assoc,Nat.add_comm 1]using this
def zca(rows:List Row)(l:List Int):List Int:=JK (kD rows) (mkD rows) l
def zkn(rows:List Row)(l:List Int):List Int:=zca rows (zcS rows l)
theorem VM {k:Int→Int} {x z:Int}:∀l,z∈xj k x l→z=x∨z∈l
 | [],h=>by simp[xj]at h;exact .inl h
 |y::l,h=>by
  unfold xj at h
  split at h
  ·rcases List.mem_cons.1 h with h|h
   ·exact .inr (by simp[h])
   ·rcases VM l h with h|h
    ·exact .inl h
    ·exact .inr (by simp[h])
  ·rcases List.mem_cons.1 h with h|h
   ·exact .inl h
   ·exact .inr h
theorem zeo {k:Int→Int} {z:Int}(l:List Int)(h:z∈zgt k l):z∈l:=by
 suffices H:∀(l O:List Int),z∈l.foldl (zdE k) O→z∈O∨z∈l by
  rcases H l [] h with h|h
  ·simp at h
  ·exact h
 intro l
 induction l with
 |nil=>intro O h;exact .inl h
 |cons x l ih=>
  intro O h
  rcases ih _ h with h|h
  ·have h2:z∈xj k x O.reverse:=by simpa[zdE]using h
   rcases VM _ h2 with h3|h3
   ·exact .inr (by simp[h3])
   ·exact .inl (by simpa using h3)
  ·exact .inr (by simp[h])
theorem zeW(rows:List Row)(l:List Int):(zcS rows l).length≤768*l.length:=by unfold zcS;rw[zfj];exact zbq rows l
theorem zdL {rows:List Row}(hrw:j8 rows) {l:List Int}(hl:∀x∈l,Zd x):∀x∈zcS rows l,Zd x:=fun x hx=>zad hrw hl x (zeo _ hx)
end
end Go.Proofs.YtfjdbbpimklecaaGreatDoor
section
namespace Go.AM
def Sem [Gi](P:Program)(c:Code)(Q:Exit→St→Prop)(S:St):Prop:=∀(E:Ent) (g:Gh) (a:Act) (w:World),SR E S g a w→c.wp P (post E Q) a w
end Go.AM
namespace Go.AM
end Go.AM
end
namespace Go.Proofs.YtfjdbbpimklecaaGreatDoor
section
open Go.AM
def cw:zQ→List AV
 | []=>[]
 |c::l=>.p (.str c.t)::.p (.int .i64 c.w)::cw l
theorem yz(l:zQ):(cw l).length=2*l.length:=by
 induction l with
 |nil=>rfl
 |cons c l ih=>simp only[cw,List.length_cons,ih];omega
theorem zi2(l m:zQ):cw (l++m)=cw l++cw m:=by
 induction l with
 |nil=>rfl
 |cons c l ih=>simp only[List.cons_append,cw,ih]
theorem zf(f:Tok→Option Tok)(l:zQ):List.map (AV.ren f) (cw l)=cw l:=by
 induction l with
 |nil=>rfl
 |cons c l ih=>simp only[cw,List.map_cons,ih];rfl
theorem zd(rt tt:Tok→Bool)(l:zQ):List.map (AV.upd (fil rt tt)) (cw l)=cw l:=by
 induction l with
 |nil=>rfl
 |cons c l ih=>simp only[cw,List.map_cons,ih];rfl
theorem zk(r1 t1 r2 t2:Tok→Bool)(l:zQ):List.map (AV.upd (fil r1 t1)∘AV.upd (fil r2 t2)) (cw l)=cw l:=by rw[←List.map_map,zd,zd]
def bl(c:Nat):List AV:=cw (List.replicate c blk)
theorem zeu(f:Tok→Option Tok)(c:Nat):List.map (AV.ren f) (bl c)=bl c:=zf _ _
theorem zce(r1 t1 r2 t2:Tok→Bool)(c:Nat):List.map (AV.upd (fil r1 t1)∘AV.upd (fil r2 t2)) (bl c)=bl c:=zk _ _ _ _ _
theorem ze1(rt tt:Tok→Bool)(c:Nat):List.map (AV.upd (fil rt tt)) (bl c)=bl c:=zd _ _ _
theorem zbV(l:zQ)(c:Nat):List.take (c*2) (cw l)=cw (l.take c):=by
 induction l generalizing c with
 |nil=>simp[cw]
 |cons x l ih=>
  cases c with
  |zero=>rfl
  |succ c=>
   rw[show(c+1)*2=c*2+1+1 from by omega]
   simp only[cw,List.take_succ_cons,ih]
theorem zbD(l:zQ)(c:Nat):List.drop (c*2) (cw l)=cw (l.drop c):=by
 induction l generalizing c with
 |nil=>simp[cw]
 |cons x l ih=>
  cases c with
  |zero=>rfl
  |succ c=>
   rw[show(c+1)*2=c*2+1+1 from by omega]
   simp only[cw,List.drop_succ_cons,ih]
theorem zh0 {l:zQ} {c:Nat}(h:c<l.length):(cw l)[c*2+1]?=some (.p (.int .i64 l[c].w)):=by
 induction l generalizing c with
 |nil=>simp at h
 |cons x l ih=>
  cases c with
  |zero=>rfl
  |succ c=>
   rw[show(c+1)*2+1=c*2+1+1+1 from by omega]
   simp only[cw,List.getElem?_cons_succ,List.getElem_cons_succ]
   exact ih (by simpa using h)
theorem xG {l:zQ} {c:Nat}(t:List UInt8)(w:Int)(h:c<l.length):List.take (c*2) (cw l)++.p (.str t)::.p (.int .i64 w)::List.drop (c*2+2) (cw l)=cw (l.set c ⟨t,w⟩):=by
 rw[show c*2+2=(c+1)*2 from by omega,zbV,zbD,List.set_eq_take_append_cons_drop,if_pos h,zi2]
 rfl
theorem jd {l:zQ} {c:Nat}(h:c<l.length):l.getD c blk=l[c]:=by rw[List.getD_eq_getElem?_getD,List.getElem?_eq_getElem h];rfl
def OkR(l:zQ):Prop:=∀(c:Nat) (x:Cl),l[c]?=some x→(x.w=0→0<c)∧(x.w=2→c+1<l.length)
theorem OkR.set {l:zQ}(h:OkR l)(c:Nat)(x:Cl)(h0:x.w=0→0<c)(h2:x.w=2→c+1<l.length):OkR (l.set c x):=fun k y hy=>by
 rw[List.length_set]
 rw[List.getElem?_set]at hy
 split at hy
 ·rename_i e
  split at hy
  ·injection hy with hy;subst hy;subst e;exact⟨h0,h2⟩
  ·cases hy
 ·exact h k y hy
theorem OkR.blank {l:zQ}(h:OkR l)(c:Nat):OkR (l.set c blk):=h.set c blk (by simp[blk]) (by simp[blk])
def zc:Cl:=⟨[],0⟩
def nw(n i:Nat):zQ:=List.replicate i blk++List.replicate (n-i) zc
theorem zjj {n i:Nat}(h:i≤n):(nw n i).length=n:=by simp[nw];omega
theorem zgW(n:Nat):(List.replicate n [AV.p (PV.str []),AV.p (PV.int .i64 0)]).flatten=cw (nw n 0):=by
 have:∀n,(List.replicate n [AV.p (PV.str []),AV.p (PV.int .i64 0)]).flatten=cw (List.replicate n zc):=by
  intro n
  induction n with
  |zero=>rfl
  |succ n ih=>
   simp only[List.replicate_succ,List.flatten_cons]at ih⊢
   rw[ih];rfl
 rw[this,nw];rfl
theorem ziI {n i:Nat}(h:i<n):(nw n i).set i blk=nw n (i+1):=by
 apply List.ext_getElem?
 intro j
 simp only[nw,List.getElem?_set,List.getElem?_append,List.length_append,List.length_replicate,List.getElem?_replicate]
 repeat' split
 all_goals first|rfl|(exfalso;omega)
theorem zi4(n:Nat):nw n n=List.replicate n blk:=by simp[nw]
def inB(R C:Nat)(r c:Int):Bool:=decide (0≤r)&&decide (r<R)&&decide (0≤c)&&decide (c<C)
def xa(l:zQ)(i:Nat):zQ:=if(l.getD i blk).w=0 then l.set (i-1) blk else if(l.getD i blk).w=2 then l.set (i+1) blk else l
def qP(l:zQ)(i:Nat):zQ:=(xa l i).set i blk
theorem KL(l:zQ)(i:Nat):(xa l i).length=l.length:=by unfold xa;split<;>(try split)<;>simp
theorem Qo(l:zQ)(i:Nat):(qP l i).length=l.length:=by rw[qP,List.length_set,KL]
theorem OkR.qP {l:zQ}(h:OkR l)(i:Nat):OkR (qP l i):=by
 unfold Go.Proofs.YtfjdbbpimklecaaGreatDoor.qP xa
 split
 ·exact(h.blank _).blank _
 ·split
  ·exact(h.blank _).blank _
  ·exact h.blank _
def ye(R C:Nat)(r c:Int)(x:Cl):Bool:=inB R C r c&&(decide (x.w=1) || decide (x.w=2))&&inB R C r (c+x.w-1)
def U3(l:zQ)(i:Nat)(x:Cl):zQ:=(if x.w=2 then(qP (qP l i) (i+1)).set (i+1) ⟨[],0⟩else qP l i).set i x
def Qx(R C:Nat)(r c:Int)(x:Cl)(l:zQ):zQ:=if ye R C r c x then U3 l (r.toNat*C+c.toNat) x else l
theorem zeN(l:zQ)(i:Nat)(x:Cl):(U3 l i x).length=l.length:=by
 unfold U3
 split<;>simp[Qo]
theorem Wo(R C:Nat)(r c:Int)(x:Cl)(l:zQ):(Qx R C r c x l).length=l.length:=by
 unfold Qx
 split
 ·exact zeN _ _ _
 ·rfl
theorem V5(R C:Nat)(r c:Int)(x:Cl)(l:zQ)(hl:l.length=R*C)(h:OkR l):OkR (Qx R C r c x l):=by
 unfold Qx
 split
 ·rename_i hb
  have hb':((((0≤r∧r<R)∧0≤c)∧c<C)∧(x.w=1∨x.w=2))∧((0≤r∧r<R)∧0≤c+x.w-1)∧c+x.w-1<C:=by simpa[ye,inB]using hb
  obtain⟨⟨⟨⟨⟨h0,h0'⟩,h1⟩,h2⟩,h3⟩,_,h4⟩:=hb'
  have hk:r.toNat*C+C≤R*C:=by rw[←Nat.succ_mul];exact Nat.mul_le_mul_right _ (by omega)
  unfold U3
  by_cases hw:x.w=2
  ·rw[if_pos hw]
   refine(((h.qP _).qP _).set _ _ (fun _=>by omega) (fun e=>by simp at e)).set _ _ (fun e=>by omega) (fun _=>?_)
   rw[List.length_set,Qo,Qo,hl]
   omega
  ·rw[if_neg hw]
   exact(h.qP _).set _ _ (fun e=>by omega) (fun e=>absurd e hw)
 ·exact h
def Vn(l:zQ)(i:Nat):Nat→zQ
 |0=>l
 |j+1=>qP (Vn l i j) (i+j)
theorem zao(l:zQ)(i j:Nat):(Vn l i j).length=l.length:=by
 induction j with
 |zero=>rfl
 |succ j ih=>rw[Vn,Qo,ih]
theorem zcb(l:zQ)(i j:Nat)(h:OkR l):OkR (Vn l i j):=by
 induction j with
 |zero=>exact h
 |succ j ih=>exact ih.qP _
def UB(R C:Nat)(r c:Int)(l:zQ):zQ:=if(0≤r∧r<R)∧0≤c then Vn l (r.toNat*C+c.toNat) (C-c.toNat)else l
theorem ze5(R C:Nat)(r c:Int)(l:zQ):(UB R C r c l).length=l.length:=by
 unfold UB
 split
 ·exact zao _ _ _
 ·rfl
theorem zhk(R C:Nat)(r c:Int)(l:zQ)(h:OkR l):OkR (UB R C r c l):=by
 unfold UB
 split
 ·exact zcb _ _ _ h
 ·exact h
def qQ(l:zQ):PV:=.sl 2 (l.map clP)
attribute [go_sem] qQ
theorem zhh(l:zQ):cw l=((l.map clP).flatMap PV.cells).map .p:=by
 induction l with
 |nil=>rfl
 |cons c l ih=>
  simp only[List.map_cons,List.flatMap_cons,List.map_append,←ih]
  rfl
def Qp(C:Nat)(l:zQ)(k:Nat):zQ:=(l.drop (k*C)).take C
theorem wV {R C:Nat} {l:zQ} {k:Nat}(hl:l.length=R*C)(hk:k<R):(Qp C l k).length=C:=by
 have h5:k*C+C≤R*C:=by rw[←Nat.succ_mul];exact Nat.mul_le_mul_right _ hk
 simp only[Qp,List.length_take,List.length_drop];omega
end
end Go.Proofs.YtfjdbbpimklecaaGreatDoor
namespace Go.AM
section
section
variable [Gi] {P:Program} {E:Ent} {Q:Exit→St→Prop} {S:St}
end
theorem jJ.zeq [Gi] {P:Program} {x y:Code} {Q:Exit→St→Prop} {S:St}(h:∀E,qL P E x (zcq P y Q) S):jJ P (.seq x y) Q S:=by
 intro E g a w hS
 refine wpIn_seq (wpIn_mono (wpIn_wide.2 (h E g a w hS)) ?_)
 rintro e a' w' ⟨S',g',hq,hs⟩
 cases e with
 |normal=>exact hq E g' a' w' hs
 |_=>exact .inl ⟨S',g',hq,hs⟩
end
end Go.AM
namespace Go.Proofs.YtfjdbbpimklecaaGreatDoor
section
open Go.AM
def ziN(R C:Nat)(top:Int)(l:List Cl):Nat→zQ
 |0=>List.replicate (R*C) blk
 |i+1=>if top≤(zea C l i).1 then Qx R C ((zea C l i).1-top) (zea C l i).2 (l.getD i blk) (ziN R C top l i)else ziN R C top l i
end
end Go.Proofs.YtfjdbbpimklecaaGreatDoor
