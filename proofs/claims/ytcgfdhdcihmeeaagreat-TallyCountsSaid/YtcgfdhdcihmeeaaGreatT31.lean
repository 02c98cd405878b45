/- A part of the proof of this seat's statements, by an abstract machine: what each operation does to values, and what the law's functions compute. Conditions: as each law says. -/
import Derived.Test.YtcgfdhdcihmeeaaGreatT30
import Derived.Test.YtcgfdhdcihmeeaaGreatT28
import Derived.Test.YtcgfdhdcihmeeaaGreatT29
import Derived.Test.YtcgfdhdcihmeeaaGreatT26
import Derived.Test.YtcgfdhdcihmeeaaGreatT18
import Derived.Test.YtcgfdhdcihmeeaaGreatT24
import Derived.Test.YtcgfdhdcihmeeaaGreatChecked
import Derived.KernelRfl
import Derived.WalkKit
import Derived.Shelf.Spec.SlicesInsert
import Derived.Lib.AppendZerosOnto
import Derived.Laws.NewBlocks
import Derived.Test.YtcgfdhdcihmeeaaGreatT16
import Derived.Laws.IdiomCopy
import Derived.Test.YtcgfdhdcihmeeaaGreatT19
section
namespace Go.AM
def VJ [Gi](P:Program)(E:Ent)(l:Nat)(pins:List Tok)(wk:List Value)(S:St)(R:List (Tok×List AV)→Prop):Prop:=
 ∀g a w,SR E S g a w→YieldAt Fence.wide 0 P l wk.toArray w fun e w'=>e=.returned (.bool true)∧∃S' g' a' gl,SR ⟨w,g,gl⟩ S' g' a' w'∧S'.pin=pins∧R S'.rs
def zN [Gi](P:Program)(E:Ent)(c:Code)(Q:Exit→St→Prop)(S:St):Prop:=∀(g:Gh) (a:Act) (w:World),SR E S g a w→c.wp P (post E Q) a w
section
variable [Gi] {P:Program} {E:Ent} {Q:Exit→St→Prop} {S:St}
theorem zN.ZY {D:List Nat}(hm:P.follows .mixedOrders=true) {c:Code}(hc:q9 D c=true)(h:wpA P D c Q S):zN P E c Q S:=fun _ _ _ hS=>Zq hm c hc h hS
def zbd(P:Program)(E:Ent)(y:Code)(Q:Exit→St→Prop):Exit→St→Prop
 |.normal,S'=>zN P E y Q S'
 |e,S'=>Q e S'
@[go_sem] theorem zkl {y : Code} {S' : St} : zbd P E y Q .normal S' = zN P E y Q S' := rfl
@[go_sem] theorem zmN {y : Code} {S' : St} : zbd P E y Q .ret S' = Q .ret S' := rfl
@[go_sem] theorem zlA {y : Code} {S' : St} {i : Nat} : zbd P E y Q (.exit i) S' = Q (.exit i) S' := rfl
theorem zN.seq {x y:Code}(h:zN P E x (zbd P E y Q) S):zN P E (.seq x y) Q S:=fun g a w hS=>by
 refine wp_seq (wp_mono (h g a w hS) ?_)
 rintro e a' w' ⟨S',g',hq,hs⟩
 cases e with
 |normal=>exact hq g' a' w' hs
 |_=>exact⟨S',g',hq,hs⟩
theorem zN.yf {D:List Nat}(hm:P.follows .mixedOrders=true) {x y:Code}(hc:q9 D x=true)(h:wpA P D x (zbd P E y Q) S):zN P E (.seq x y) Q S:=.seq (.ZY hm hc h)
theorem zN.block {id:Nat} {c:Code}(h:zN P E c (zgA id Q) S):zN P E (.block id c) Q S:=fun g a w hS=>by
 refine wp_block (wp_mono (h g a w hS) ?_)
 rintro e a' w' ⟨S',g',hq,hs⟩
 cases e with
 |exit i=>
  simp only[Exit.inBlock]
  simp only[zgA]at hq
  split
  ·rename_i hi;rw[if_pos hi]at hq;exact⟨S',g',hq,hs⟩
  ·rename_i hi;rw[if_neg hi]at hq;exact⟨S',g',hq,hs⟩
 |_=>exact⟨S',g',hq,hs⟩
end
def zen {ι:Type}(inv:ι→Prop)(st:ι→St)(m:ι→Nat)(i:ι)(Q:Exit→St→Prop):Exit→St→Prop
 |.normal,S'=>∃j,inv j∧LeR S' (st j)∧m j<m i
 |e,S'=>Q e S'
@[go_sem] theorem zmu {Q : Exit → St → Prop} {ι : Type} {inv : ι → Prop} {st : ι → St} {m : ι → Nat} {i : ι} {k : Nat} {S' : St} : zen inv st m i Q (.exit k) S' = Q (.exit k) S' := rfl
@[go_sem] theorem zmS {Q : Exit → St → Prop} {ι : Type} {inv : ι → Prop} {st : ι → St} {m : ι → Nat} {i : ι} {S' : St} : zen inv st m i Q .ret S' = Q .ret S' := rfl
theorem uE {Q:Exit→St→Prop} {ι:Type} {inv:ι→Prop} {st:ι→St} {m:ι→Nat} {i:ι} {S':St}(j:ι)(h1:inv j)(h2:LeS S' (st j))(h3:m j<m i):zen inv st m i Q .normal S':=⟨j,h1,.inl h2,h3⟩
section
variable [Gi] {P:Program} {E:Ent} {Q:Exit→St→Prop} {S:St}
theorem zN.loop {c:Code} {ι:Type}(inv:ι→Prop)(st:ι→St)(m:ι→Nat)(i:ι)(hi:inv i)(h0:LeS S (st i))(h:∀i,inv i→zN P E c (zen inv st m i Q) (st i)):zN P E (.loop c) Q S:=fun g a w hS=>by
 obtain⟨g0,h0⟩:=hS.le h0
 refine KF (fun i a w=>inv i∧∃g,SR E (st i) g a w) m (i₀:=i) ⟨hi,g0,h0⟩ ?_
 rintro i a w ⟨hi,g,hs⟩
 refine wp_mono (h i hi g a w hs) ?_
 rintro e a' w' ⟨S',g',hq,hs'⟩
 cases e with
 |normal=>
  obtain⟨j,hj,hl,hlt⟩:=hq
  obtain⟨g'',h''⟩:=hs'.leR hl
  exact⟨j,⟨hj,g'',h''⟩,hlt⟩
 |_=>exact⟨S',g',hq,hs'⟩
theorem zN.zin {c:Operand} {x y:Code}(hv:S.ev c=.p (.bool true))(h:zN P E x Q S):zN P E (.cond c x y) Q S:=fun g a w hS=>by
 have hr:=hS.ev c
 rw[hv]at hr
 simp only[zb,zj]at hr
 exact wp_cond_true hr (h g a w hS)
theorem zN.zfp {c:Operand} {x y:Code}(hv:S.ev c=.p (.bool false))(h:zN P E y Q S):zN P E (.cond c x y) Q S:=fun g a w hS=>by
 have hr:=hS.ev c
 rw[hv]at hr
 simp only[zb,zj]at hr
 exact wp_cond_false hr (h g a w hS)
@[go_sem] def zli : AV → Option Value
 |.p (.int k n)=>some (.int k n)
 |.p (.bool b)=>some (.bool b)
 |_=>none
end
theorem zfI {g:Gh} {w:World} {x:AV} {u v:Value}(h:zli x=some u)(r:zb g w x v):v=u:=by
 unfold zli at h
 split at h
 ·injection h with h;subst h;simpa only[zb,zj]using r
 ·injection h with h;subst h;simpa only[zb,zj]using r
 ·cases h
@[go_sem] def Uz (S : St) : List Operand → Prop × Option (List Value)
 | []=>(True,some [])
 |x::l=>((unG (S.ev x)).1∧(Uz S l).1,match zli (unG (S.ev x)).2,(Uz S l).2 with
  |some v,some vs=>some (v::vs)
  |_,_=>none)
section
variable [Gi] {P:Program} {E:Ent} {Q:Exit→St→Prop} {S:St}
theorem JR {g:Gh} {a:Act} {w:World}(hS:SR E S g a w):∀{l:List Operand} {vs:List Value},(Uz S l).1→(Uz S l).2=some vs→l.map a.eval=vs
 | [],vs,_,h=>by simp only[Uz,Option.some.injEq]at h;subst h;rfl
 |x::l,vs,h1,h=>by
  simp only[Uz]at h1 h
  split at h
  ·rename_i v vs' e1 e2
   injection h with h;subst h
   rw[List.map_cons,JR hS h1.2 e2,zfI e1 (zo h1.1 (hS.ev x))]
  ·cases h
theorem U5 {ops:Array Oper} {K:St→Prop} {Q':Exit→Act→World→Prop}:∀(l rest:List Oper) {S:St} {g:Gh} {a:Act} {w:World},l.all qN=true→Ze P ops l S K→SR E S g a w→
  (∀S' g' a' w',K S'→SR E S' g' a' w'→wpListIn Fence.wide 0 P ops Q' rest a' w')→wpListIn Fence.wide 0 P ops Q' (l++rest) a w
 | [],rest,S,g,a,w,_,h,hS,hk=>hk _ _ _ _ h hS
 |o::l,rest,S,g,a,w,hd,h,hS,hk=>by
  simp only[List.all_cons,Bool.and_eq_true]at hd
  unfold Ze at h
  cases hc:z5 ops S o with
  |none=>simp only[hc]at h
  |some c=>
   simp only[hc]at h
   have:=kU (P:=P) hS hc h (next:=fun a' w'=>∃S' g',Ze P ops l S' K∧SR E S' g' a' w') (Q:=fun _ _ _=>False) (fun S' g' a' w' hk hs=>⟨S',g',hk,hs⟩)
   have go:∀a' w',(∃S' g',Ze P ops l S' K∧SR E S' g' a' w')→wpListIn Fence.wide 0 P ops Q' (l++rest) a' w':=by
    rintro a' w' ⟨S',g',hk',hs⟩
    exact U5 l rest hd.2 hk' hs hk
   rw[List.cons_append]
   unfold wpListIn
   split
   ·rename_i hw
    rw[if_pos hw]at this
    have h1:=zaA (r:=none) (n:=0) hd.1 (fun⟨_,_,h⟩=>h) this
    refine⟨h1.1,?_⟩
    have h2:=h1.2
    show o.uponIn Fence.wide 0 P a _ _ ((o.semAt (ZU none).round a.eval).run P w)
    generalize (o.semAt (ZU none).round a.eval).run P w=res at h2
    match res,h2 with
    |.ok (.value v) w',k=>exact go _ _ k
    |.ok .skip w',k=>exact go _ _ k
    |.ok (.defer d) w',k=>exact go _ _ k
    |.ok (.enter f args) w',k=>
     refine⟨k.1,CallsIn.mono k.2 fun e w'' k=>?_⟩
     cases e with
     |returned v=>exact go _ _ k
     |panicked c=>exact k.elim
     |outgrown=>obtain⟨_,_,k⟩:=k;exact k.elim
    |.ok (.row row args) w',k=>exact⟨k.1,RowsIn.mono k.2 fun v w'' k=>go _ _ k⟩
    |.ok (.round l' f t as1 b) w',k=>
     refine⟨k.1,RoundIn.mono k.2 fun e w'' k=>?_⟩
     cases e with
     |returned v=>exact go _ _ k
     |panicked c=>exact k.elim
     |outgrown=>obtain⟨_,_,k⟩:=k;exact k.elim
    |.halt (.panic v) w',k=>exact k.elim
   ·rename_i hw
    rw[if_neg hw]at this
    exact⟨fun _ _=>trivial,go _ _ this⟩
theorem zN.yield {id l d:Nat} {pre suf:List Oper} {o:Oper} {ops:List Oper}(hops:ops=pre++o::suf) {x:Operand} {as1:Array Operand} {tys:Array TypeId}(ho:o.op=.call ⟨.value x,as1,tys⟩)(hdst:o.dst=some d)
  {pins:List Tok} (hd1:pre.all qN=true) (hd2:suf.all qN=true)
  (h:Ze P ops.toArray pre {S with ts:=[]} fun S1=>∃c wk R,z5 ops.toArray S1 o=some c∧c≠some false∧(unG (S1.ev x)).1∧(unG (S1.ev x)).2=.p (.opq (.func (.yield l) #[] #[]))∧(Uz S1 as1.toList).1∧(Uz S1 as1.toList).2=some wk∧d<S1.n∧
   S1.pin=pins∧VJ P E l pins wk S1 R∧∀rs,R rs→Ze P ops.toArray suf ((kx S1 pins rs).set d (.p (.bool true))) (Q .normal)):zN P E (.region id ops.toArray false) Q S:=by
 intro g a w hS
 refine(wpIn_wide (n:=0)).1 (ZM (K:=fun a' w'=>∃S' g',Q .normal S'∧SR E S' g' a' w') (wpIn_region_list ?_) fun a' w' k=>k)
 show wpListIn Fence.wide 0 P ops.toArray (WV fun a' w'=>∃S' g',Q .normal S'∧SR E S' g' a' w') ops a w
 generalize hoa:ops.toArray=oa at h⊢
 subst hops
 refine U5 pre (o::suf) hd1 h hS.clean ?_
 rintro S1 g1 a1 w1 ⟨c,wk,R,hg,hc,hu,hx,hl1,hl2,hd,hp,hY,hrest⟩ hs
 obtain⟨dst,op,tt,pos,after,guard⟩:=o
 simp only at ho hdst
 subst ho
 subst hdst
 have hw:Region.wanted ⟨some d,.call ⟨.value x,as1,tys⟩,tt,pos,after,guard⟩ (yielded oa a1.tmps)=true:=by
  cases c with
  |none=>exact jM hg _
  |some b=>
   rw[Q3 hs hg]
   cases b with
   |true=>rfl
   |false=>exact absurd rfl hc
 unfold wpListIn
 rw[if_pos hw]
 unfold Oper.wpIn
 rw[Oper.semAt_eq _ _ _ (fun c=>by simp)]
 refine⟨fun _ _=>trivial,?_⟩
 have hr:=zo hu (hs.ev x)
 rw[hx]at hr
 simp only[zb,zj]at hr
 have hargs:=JR hs hl1 hl2
 obtain⟨fn,tm,asg,bd,hy1,hy2⟩:=hY g1 a1 w1 hs
 have hrun:(execOp a1.eval ⟨some d,.call ⟨.value x,as1,tys⟩,tt,pos,after,guard⟩).run P w1=.ok (.round l fn tm asg bd) w1:=by
  have ha:(as1.map a1.eval)=wk.toArray:=by
   rw[←hargs];apply Array.ext';simp
  simp only[execOp,resolve,hr,Deferred.ofValue,Sem.run_bind,Sem.run_pure,Result.andThen_ok,invoke]
  rw[←hy1]
  congr 1
  simp[ha]
 rw[hrun]
 refine⟨fun e=>(by cases e),RoundIn.mono hy2 ?_⟩
 rintro e w' ⟨rfl,S',g',a',gl,hs',hp',hR⟩
 have c0:=hs.comp (show SR ⟨w1,g1,hs.gl⟩ S' g' a' w' from hs') (fun t ht=>by rw[hp'];rw[hp]at ht;exact ht)
 have kv:=KV.of hs (show SR ⟨w1,g1,hs.gl⟩ S' g' a' w' from hs') hp'
 have hb:=hs.back c0 kv rfl
 have hb2:=hb.put (d:=d) (x:=.p (.bool true)) (v:=.bool true) (by simp only[zb,zj]) hd
 exact kN (r:=none) (n:=0) (kL _) suf _ _ hd2 (QC (K:=Q .normal) (fun S' g' a' w' hk hs=>⟨S',g',hk,hs⟩) suf (hrest _ hR) hb2)
end
def zfA(pins:List Tok)(R:List (Tok×List AV)→Prop):Exit→St→Prop
 |.normal,S=>S.pin=pins∧R S.rs
 |.ret,S=>S.pin=pins∧R S.rs
 |_,_=>False
@[go_sem] theorem zlc {pins : List Tok} {R : List (Tok × List AV) → Prop} {S : St} : zfA pins R .normal S = (S.pin = pins ∧ R S.rs) := rfl
@[go_sem] theorem znL {pins : List Tok} {R : List (Tok × List AV) → Prop} {S : St} : zfA pins R .ret S = (S.pin = pins ∧ R S.rs) := rfl
def itS(fn:Func)(nv:Nat)(ex:List Nat)(l:Nat)(caps:List AV)(rs:List (Tok×List AV))(pins:List Tok):St:=
 {n:=fn.ntmps,nv:=nv,vs:=uV 0 (.p (.opq (.func (.yield l) #[] #[]))::caps),ts:=[],rs:=rs,pin:=pins,ex:=ex}
theorem zl3 [Gi] {P:Program} {w:World} {g:Gh} {gl:Xz g w} {f:FuncId} {fn:Func} {c:Code}(nv:Nat)(ex:List Nat)(hf:P.funcs[f]?=some fn)(hb:fn.body=some c)(hres:fn.results= #[])
  {l:Nat} {caps:List AV} {us:List Value} (hcaps:zm g w caps us) (_hnv:caps.length+1≤nv) (hn:caps.length+1≤fn.ntmps) {rs:List (Tok×List AV)} {pins:List Tok} {R:List (Tok×List AV)→Prop} (hG:GS g w rs)
  (h:zN P ⟨w,g,gl⟩ c (zfA pins R) (itS fn nv ex l caps rs pins)):
  CallsIn Fence.wide 0 P f (#[.func (.yield l) #[] #[]]++us.toArray) w fun e w'=>(∃v,e=.returned v)∧∃S' g' a',SR ⟨w,g,gl⟩ S' g' a' w'∧S'.pin=pins∧R S'.rs:=by
 have hargs:zm g w (.p (.opq (.func (.yield l) #[] #[]))::caps) (.func (.yield l) #[] #[]::us):=by
  simp only[zm];exact⟨_,_,rfl,by simp only[zb,zj],hcaps⟩
 have hS:SR ⟨w,g,gl⟩ (itS fn nv ex l caps rs pins) g {tmps:=(.func (.yield l) #[] #[]::us).toArray++Array.replicate (fn.ntmps- (.func (.yield l) #[] #[]::us).toArray.size) undef,defers:=[]} w:=by
  have hlen:us.length=caps.length:=by
   clear h _hnv hn hargs
   induction caps generalizing us with
   |nil=>simp only[zm]at hcaps;subst hcaps;rfl
   |cons x xs ih=>simp only[zm]at hcaps;obtain⟨v,vs',rfl,_,h2⟩:=hcaps;simp[ih h2]
  refine⟨by simp[itS];omega,rfl,fun t=>?_,hG.roots,hG.ur,hG.ut,fun b hb=>⟨hG.own b hb,.inr hb⟩,fun b _=>⟨rfl,rfl⟩,Ext.refl _ _,⟨rfl,rfl,rfl⟩,Nat.le_refl _,hG.frb,fun b t hk _=>⟨hk,fun _ hn=>hn⟩⟩
  unfold St.get itS
  split
  ·simp only[vS,Nat.zero_le,if_true,Nat.sub_zero]
   cases hx:(AV.p (.opq (.func (.yield l) #[] #[]))::caps)[t]? with
   |none=>simp only[qn,zb]
   |some x=>
    simp only[qn]
    obtain⟨v,hv,hr⟩:=hargs.get hx
    have hvl:=(List.getElem?_eq_some_iff.1 hv).1
    have:((.func (.yield l) #[] #[]::us).toArray++Array.replicate (fn.ntmps- (.func (.yield l) #[] #[]::us).toArray.size) undef).getD t undef=v:=by
     have h2:=(List.getElem?_eq_some_iff.1 hv).2
     simp only[Array.getD_eq_getD_getElem?,Array.getElem?_append]
     rw[if_pos (by simpa using hvl)]
     simp only[List.getElem?_toArray]
     rw[hv];rfl
    rw[this];exact hr
  ·simp only[look,qn,zb]
 have e0:(#[.func (.yield l) #[] #[]]++us.toArray:Array Value)=(.func (.yield l) #[] #[]::us).toArray:=by simp
 rw[e0]
 have hts:uN fn.results.toList=some []:=by rw[hres];rfl
 refine callsIn_of_wp_marks hf hb trivial (wpIn_mono ((wpIn_wide (n:=0)).2 (h g _ w hS)) ?_)
 have ends:∀u a' w',(u=Exit.normal∨u=Exit.ret)→post ⟨w,g,gl⟩ (zfA pins R) u a' w'→bodyPostM Fence.wide 0 P fn (fun e w'=>(∃v,e=.returned v)∧∃S' g' a',SR ⟨w,g,gl⟩ S' g' a' w'∧S'.pin=pins∧R S'.rs) u a' w':=by
  rintro u a' w' hu ⟨S',g',hq,hs⟩
  have hq':S'.pin=pins∧R S'.rs:=by rcases hu with rfl|rfl<;>exact hq
  obtain⟨v,h1,_⟩:=Kf (pin:=S'.pin) (R:=fun _ _=>True) hts hs ⟨S'.pin,.tup [],⟨rfl,by simp⟩,⟨trivial,by simp[go_sem,zf,leT]⟩,trivial⟩
  have:=hs.defers
  rcases hu with rfl|rfl<;>·simp only[bodyPostM,this,LeavesInM,LeavesIn];exact⟨v,h1,⟨v,rfl⟩,S',g',a',hs,hq'⟩
 rintro e a' w' hpost
 cases e with
 |normal=>exact ends _ _ _ (.inl rfl) hpost
 |ret=>exact ends _ _ _ (.inr rfl) hpost
 |panic ch=>obtain⟨S',g',hq,_⟩:=hpost;exact hq.elim
 |exit i=>obtain⟨S',g',hq,_⟩:=hpost;exact hq.elim
 |goto i=>obtain⟨S',g',hq,_⟩:=hpost;exact hq.elim
 |outgrown=>obtain⟨S',g',hq,_⟩:=hpost;exact hq.elim
theorem Jm {α:Type}:∀(l l':List (Nat×α)) (t:Nat),look (l++l') t=match look l t with|some x=>some x|none=>look l' t
 | [],l',t=>by simp[look]
 |(k,x)::l,l',t=>by
  simp only[List.cons_append,look]
  split
  ·rfl
  ·exact Jm l l' t
def zea(S:St)(pins:List Tok)(next:List (Tok×List AV)):Exit→St→Prop
 |.normal,S2=>True∧LeR S2 (lst S [] next pins)
 |_,_=>False
@[go_sem] theorem zju {S : St} {pins : List Tok} {next : List (Tok × List AV)} {S2 : St} : zea S pins next .normal S2 = LeR S2 (lst S [] next pins) := by simp [zea]
end Go.AM
end
section
namespace Go.Proofs.YtcgfdhdcihmeeaaGreat
open Go.AM
set_option maxHeartbeats 4000000
set_option maxRecDepth 10000
def zA(l:List Int):PV:=.sl 1 (zK l)
theorem zf6(l:List Int):(zK l).flatMap PV.cells=zK l:=by
 unfold zK
 exact Ub l
theorem zX(l:List Int):(zK l).length=l.length:=by simp[zK]
theorem zfV(l:List Int):(zK l).map AV.p=XV l:=rfl
theorem zec [Gi](l:List Int)(h0:l≠ [])(hn:l.length<2^40):CR Tryz.prog 127 [] [.p (zA l)] [] (fun x rs=>x=.la [7] 1 0 l.length∧rs=[([7],XV l)]):=by
 refine vX [] mixed 3 [] Tryz.func127 rfl (by kernel_rfl) [5] rfl (by simp) (by simp) ?_
 obtain⟨y,l',rfl⟩:∃y l',l=y::l':=by
  cases l with
  |nil=>exact absurd rfl h0
  |cons y l'=>exact⟨y,l',rfl⟩
 simp (maxSteps:=1000000) [go_sem,Tryz.f127,zA,zK]
 simp only[List.length_cons]at hn
 exact⟨by omega,zu [[7]] (.la [7] 1 0 (l'.length+1)) ⟨rfl,by simp⟩ (by simp[go_sem,zf,leA,leT]) ⟨rfl,by simp[go_sem,Ub,XV]⟩⟩
end Go.Proofs.YtcgfdhdcihmeeaaGreat
end
section
namespace Go.Proofs.YtcgfdhdcihmeeaaGreat
open Go.AM
set_option maxHeartbeats 4000000
set_option maxRecDepth 10000
end Go.Proofs.YtcgfdhdcihmeeaaGreat
end
section
namespace Go.Proofs.YtcgfdhdcihmeeaaGreat
open Go.AM
set_option maxHeartbeats 4000000
set_option maxRecDepth 10000
theorem CR.row [Gi] {P:Program} {fn:FuncId} {args:List AV} {t:Tok} {M:List Int}(h0:0<M.length)(h:CR P fn [] args [] (fun x rs=>x=.la t 1 0 M.length∧rs=[(t,XV M)])):CR P fn [] args [] (is (.p (zA M))):=by
 refine CR.freeze h (fun _=>false) rfl ?_
 rintro x rs ⟨rfl,rfl⟩
 refine⟨.p (zA M),fun g w v hG hv=>?_,rfl,rfl⟩
 rw[uw]
 refine VB (t:=t) (z:=1) (n:=M.length) (es:=zK M) (rt:=fun _=>false) hG [] h0 ?_ rfl (by simp[zK]) (fun e he=>?_) hv
 ·rw[zf6];simp[zl,zfV]
 ·obtain⟨s,_,rfl⟩:=List.mem_map.1 he
  exact⟨rfl,rfl⟩
end Go.Proofs.YtcgfdhdcihmeeaaGreat
end
section
namespace Go.Proofs.YtcgfdhdcihmeeaaGreat
open Go.AM
set_option maxHeartbeats 4000000
set_option maxRecDepth 10000
def jr:yW:=⟨false,0,0,0,false⟩
def wu(t:qV):yW→List Int→Nat
 |_,[]=>0
 |s,r::l=>if(Zf t s r).2 then 0 else 1+wu t (Zf t s r).1 l
theorem zfa(t:qV):∀(l:List Int) (s:yW),wu t s l≤l.length
 | [],_=>by simp[wu]
 |r::l,s=>by
  unfold wu
  split
  ·omega
  ·have:=zfa t l (Zf t s r).1
   simp only[List.length_cons];omega
def zkQ:OT:=.now 0 1 (.now 1 1 (.now 2 1 (.now 3 1 (.now 4 1 (.now 5 1 (.mk [(6,.now 7 1 (.now 8 1 (.now 9 2 (.mk [(10,.mk [(11,.now 12 0 (.mk []))])])))),(10,.mk [(6,.now 7 0 (.now 8 0 (.now 9 2 (.mk [(11,.now 12 0 (.mk []))]))))])]))))))
def zgX(s:yW):List AV:=[.p (.bool s.some),.p (.int .i64 s.last),.p (.int .i64 s.pict),.p (.int .i64 s.conj),.p (.bool s.odd)]
theorem zkA [Gi] {t:qV} {c b j f p:PV}(h:WO t c b j f p)(hz:Uo t)(ck cx sk sx:List PV)(l:List Int)(hn:l.length<2^31)(hr:∀x∈l,zY x)(a:Nat)(x:Int)(l':List Int)(ha:l.drop a=x::l'):
  CR Tryz.prog 126 [] [.p (jE c b j f p ck cx sk sx),.p (zA l),.p (.int .i64 a)] [] (is (.p (.int .i64 ((a+1+wu t (Zf t jr x).1 l':Nat):Int)))):=by
 have hal:a<l.length:=by
  have:=congrArg List.length ha
  simp at this;omega
 have hx:l[a]=x:=by
  have:=List.drop_eq_getElem_cons hal
  rw[ha]at this
  injection this with h1 _;exact h1.symm
 have hl':l'=l.drop (a+1):=by
  have:=List.drop_eq_getElem_cons hal
  rw[ha]at this
  injection this
 have hxr:zY x:=hr x (by rw[←hx];exact List.getElem_mem _)
 have em:elemAt (zK l) a=.int .i32 x:=by rw[zK,zp (fun r=>PV.int .i32 r) l a hal,hx]
 obtain⟨N,hN⟩:∃N,N=a+1+wu t (Zf t jr x).1 l':=⟨_,rfl⟩
 rw[←hN]
 refine zR [200007] mixed 11 [] Tryz.func126 rfl (by kernel_rfl) rfl (by simp) (by simp) ?_
 have w1:IntKind.i64.wrap ((a:Int)+1)=((a+1:Nat):Int):=zD (by omega)
 have g1:¬(a:Int)<0:=by omega
 have g2:¬((l.length:Int)≤a):=by omega
 have g3:(a:Int)<l.length:=by omega
 simp (maxSteps:=1000000) [go_sem,Tryz.f126,zA,zX,jE,g1,g2,g3,em]
 refine⟨⟨rfl,by simp[Tryz.f100]⟩,zd [] (Ke h hz ck cx sk sx jr x hxr) (by simp[go_sem]) ⟨by simp[go_sem],by simp[go_sem,yu,jr,jE]⟩ (by simp[go_sem]) ?_⟩
 rintro _ rs ⟨rfl,rfl⟩
 have hso:∀s r,(Zf t s r).1.some=true:=fun _ _=>rfl
 obtain⟨s0,hs0⟩:∃s0,(Zf t jr x).1=s0:=⟨_,rfl⟩
 rw[hs0]at hN⊢
 generalize (Zf t jr x).2=cut0
 simp (maxSteps:=1000000) [go_sem,yu,w1]
 refine zE (fun r:Nat×yW=>N=r.1+wu t r.2 (l.drop r.1)∧r.1≤l.length) (fun r=>[(2,.p (.int .i64 (r.1:Nat))),(9,.z8),(10,.z8)]) (fun r=>[([7],zgX r.2)]) (fun r=>l.length-r.1) (a+1,s0) ⟨by rw[hN,hl'],by simp only;omega⟩ (by simp[go_sem,LeS,leV,leR,leA,leL,zgX]) (fun r hr2=>?_)
 obtain⟨i,s⟩:=r
 obtain⟨p1,p2⟩:=hr2
 simp only at p1 p2
 by_cases hil:i<l.length
 ·obtain⟨y,hy⟩:∃y,l[i]=y:=⟨_,rfl⟩
  have hyr:zY y:=hr y (by rw[←hy];exact List.getElem_mem _)
  have em2:elemAt (zK l) i=.int .i32 y:=by rw[zK,zp (fun r=>PV.int .i32 r) l i hil,hy]
  have hdr:l.drop i=y::l.drop (i+1):=by rw[←hy];exact List.drop_eq_getElem_cons hil
  have g4:(i:Int)<l.length:=by omega
  have w2:IntKind.i64.wrap ((i:Int)+1)=((i+1:Nat):Int):=zD (by omega)
  have hend:(Zf t s y).2=true→N=i:=fun e=>by rw[p1,hdr,wu,if_pos e];rfl
  have hgo:(Zf t s y).2=false→N=(i+1)+wu t (Zf t s y).1 (l.drop (i+1)):=fun e=>by rw[p1,hdr,wu,if_neg (by rw[e];simp)];omega
  simp (maxSteps:=1000000) [go_sem,zX,g4,zgX]
  refine Qr zkQ (by kernel_rfl) ?_
  simp (maxSteps:=1000000) [go_sem,zkQ,zX,g4,em2]
  refine⟨⟨⟨rfl,by simp[Tryz.f100]⟩,zd [] (Ke h hz ck cx sk sx s y hyr) (by simp[go_sem]) ⟨by simp[go_sem],by simp[go_sem,yu,jE]⟩ (by simp[go_sem]) ?_⟩,⟨⟨rfl,by simp[Tryz.f100]⟩,zd [] (Ke h hz ck cx sk sx s y hyr) (by simp[go_sem]) ⟨by simp[go_sem],by simp[go_sem,yu,jE]⟩ (by simp[go_sem]) ?_⟩⟩
  ·rintro _ rs ⟨rfl,rfl⟩
   generalize Zf t s y=q at hend hgo
   obtain⟨s2,ct⟩:=q
   cases ct with
   |true=>
    have e:=hend rfl
    rw[e]
    simp (maxSteps:=1000000) [go_sem,yu]
    exact zh (.p (.int .i64 (i:Nat))) rfl (by simp[go_sem,zf,leA,leT]) ⟨rfl,rfl⟩
   |false=>
    have e:=hgo rfl
    simp (maxSteps:=1000000) [go_sem,yu,w2]
    exact zg (i+1,s2) ⟨e,by show i+1≤l.length;omega⟩ (by simp[go_sem,LeS,leV,leR,leA,leL]) (by show l.length- (i+1)<l.length-i;omega)
  ·rintro _ rs ⟨rfl,rfl⟩
   generalize Zf t s y=q at hend hgo
   obtain⟨s2,ct⟩:=q
   cases ct with
   |true=>
    have e:=hend rfl
    rw[e]
    simp (maxSteps:=1000000) [go_sem,yu]
    exact zh (.p (.int .i64 (i:Nat))) rfl (by simp[go_sem,zf,leA,leT]) ⟨rfl,rfl⟩
   |false=>
    have e:=hgo rfl
    simp (maxSteps:=1000000) [go_sem,yu,w2]
    exact zg (i+1,s2) ⟨e,by show i+1≤l.length;omega⟩ (by simp[go_sem,LeS,leV,leR,leA,leL]) (by show l.length- (i+1)<l.length-i;omega)
 ·have g4:¬(i:Int)<l.length:=by omega
  have e:N=i:=by rw[p1,List.drop_eq_nil_of_le (by omega)];rfl
  rw[e]
  simp (maxSteps:=1000000) [go_sem,zX,g4]
  exact zh (.p (.int .i64 (i:Nat))) rfl (by simp[go_sem,zf,leA,leT]) ⟨rfl,rfl⟩
def xx(t:qV):Nat→List Int→List (List Int)
 |0,_=>[]
 |_,[]=>[]
 |n+1,r::l=>(r::l.take (wu t (Zf t jr r).1 l))::xx t n (l.drop (wu t (Zf t jr r).1 l))
def w8(t:qV)(l:List Int):List (List Int):=xx t l.length l
theorem UD(t:qV):∀(n m:Nat) (l:List Int),l.length≤n→l.length≤m→xx t n l=xx t m l
 |0,m,l,h1,h2=>by
  obtain rfl:l=[]:=List.eq_nil_of_length_eq_zero (by omega)
  cases m<;>rfl
 |n+1,0,l,h1,h2=>by
  obtain rfl:l=[]:=List.eq_nil_of_length_eq_zero (by omega)
  rfl
 |n+1,m+1,[],h1,h2=>rfl
 |n+1,m+1,r::l,h1,h2=>by
  simp only[List.length_cons]at h1 h2
  simp only[xx]
  rw[UD t n m _ (by rw[List.length_drop];omega) (by rw[List.length_drop];omega)]
theorem zcX(t:qV)(r:Int)(l:List Int):w8 t (r::l)=(r::l.take (wu t (Zf t jr r).1 l))::w8 t (l.drop (wu t (Zf t jr r).1 l)):=by
 unfold w8
 simp only[List.length_cons,xx]
 rw[UD t l.length _ _ (by rw[List.length_drop];omega) (Nat.le_refl _)]
end Go.Proofs.YtcgfdhdcihmeeaaGreat
end
section
namespace Go.Proofs.YtcgfdhdcihmeeaaGreat
open Go.AM
set_option maxHeartbeats 4000000
set_option maxRecDepth 10000
end Go.Proofs.YtcgfdhdcihmeeaaGreat
end
section
namespace Go.Proofs.YtcgfdhdcihmeeaaGreat
open Go.AM
set_option maxHeartbeats 4000000
set_option maxRecDepth 10000
end Go.Proofs.YtcgfdhdcihmeeaaGreat
end
section
namespace Go.Proofs.YtcgfdhdcihmeeaaGreat
open Go.AM
set_option maxHeartbeats 4000000
set_option maxRecDepth 10000
structure Cst where
 o:List Int
 s:Int
 l:Int
def wQ(k:Int→Int)(z:Cst)(r:Int):Cst:=⟨z.o++[r],if k r=0 then z.o.length else z.s,k r⟩
def Ym(k:Int→Int)(z:Cst)(r:Int):Prop:=0≤z.s∧(z.s=z.o.length-1∨(z.l≠0∧z.l<k r))
instance (k:Int→Int)(z:Cst)(r:Int):Decidable (Ym k z r):=by unfold Ym;infer_instance
def zeQ(k:Int→Int)(mk:Int→Int→Option Int)(z:Cst)(r:Int):Cst:=
 if Ym k z r then match mk (z.o[z.s.toNat]?.getD 0) r with
  |some c=>⟨z.o.set z.s.toNat c,z.s,z.l⟩
  |none=>wQ k z r
 else wQ k z r
structure Y2(z:Cst)(n:Nat):Prop where
 lo: -1≤z.s
 hi:z.s<z.o.length
 nn:z.o.length≤n
 ne:0<n→z.o≠ []
theorem Y2.push {z:Cst} {n:Nat}(h:Y2 z n)(k:Int→Int)(r:Int):Y2 (wQ k z r) (n+1):=by
 obtain⟨h1,h2,h3,h4⟩:=h
 refine⟨?_,?_,by simp[wQ];omega,by simp[wQ]⟩
 ·unfold wQ;simp only;split<;>omega
 ·unfold wQ;simp only[List.length_append,List.length_singleton];split<;>omega
theorem Y2.step {z:Cst} {n:Nat}(h:Y2 z n)(k:Int→Int)(mk:Int→Int→Option Int)(r:Int):Y2 (zeQ k mk z r) (n+1):=by
 unfold zeQ
 split
 ·rename_i hf
  split
  ·obtain⟨h1,h2,h3,h4⟩:=h
   have:=hf.1
   refine⟨h1,by simp;omega,by simp;omega,fun _ e=>?_⟩
   have:=congrArg List.length e
   rw[List.length_set,List.length_nil]at this
   omega
  ·exact h.push k r
 ·exact h.push k r
end Go.Proofs.YtcgfdhdcihmeeaaGreat
end
section
namespace Go.Proofs.YtcgfdhdcihmeeaaGreat
open Go.AM
set_option maxHeartbeats 4000000
set_option maxRecDepth 10000
def Zg(L:List (List Int)):List PV:=L.map zA
def yS(L:List (List Int)):PV:=.sl 1 (Zg L)
theorem zjh [Gi](l:List Int)(h0:l≠ [])(hn:l.length<2^40):CR Tryz.prog 127 [] [.p (zA l)] [] (is (.p (zA l))):=CR.row (List.length_pos_iff.2 h0) (zec l h0 hn)
end Go.Proofs.YtcgfdhdcihmeeaaGreat
end
section
namespace Go.Proofs.YtcgfdhdcihmeeaaGreat
open Go.RowKit Go.Lib
set_option maxRecDepth 100000
set_option maxHeartbeats 4000000
end Go.Proofs.YtcgfdhdcihmeeaaGreat
end
section
namespace Go.AM
structure Chg(g:Gh)(w w':World)(B:Nat):Prop where
 old:∀d,d<w.heap.size→d≠B→w'.heap[d]?=w.heap[d]?
 fr0:g.fr B=0
 mine:w.heap.size≤B∨g.K B≠ .prot
 lt:B<w'.heap.size
 mono:w.heap.size≤w'.heap.size
 out:w'.os=w.os∧w'.tape=w.tape∧w'.output=w.output
def ngh(g:Gh)(B m:Nat)(k:Kd):Gh:=⟨Zn g.fr B m,fun d=>if d=B then k else .prot⟩
theorem Chg.ext [Gi] {g:Gh} {w w':World} {B:Nat} {rs:List (Tok×List AV)}(c:Chg g w w' B)(hG:GS g w rs)(m:Nat)(k:Kd):Ext g.fr w (ngh g B m k).fr w':=fun d o ho=>by
 have hd:d≠B:=fun e=>by subst e;rw[c.fr0]at ho;omega
 have hlt:d<w.heap.size:=by
  rcases Nat.lt_or_ge d w.heap.size with h|h
  ·exact h
  ·have:=hG.frb d h;omega
 exact⟨by show o<Zn g.fr B m d;rw[qo _ _ _ hd];exact ho,zL (c.old d hlt hd)⟩
theorem Chg.aft [Gi] {g:Gh} {w w':World} {B:Nat} {rs:List (Tok×List AV)}(c:Chg g w w' B)(hG:GS g w rs)(m:Nat)(k:Kd):Aft g w (ngh g B m k) w' []:=
 ⟨fun d hd hk=>by
  have hdB:d≠B:=fun e=>by
   subst e
   rcases c.mine with h|h
   ·omega
   ·exact h hk
  exact⟨c.old d hd hdB,qo _ _ _ hdB,if_neg hdB⟩,c.ext hG m k,c.out,c.mono,fun _ _ _ h=>by cases h⟩
theorem Chg.frb [Gi] {g:Gh} {w w':World} {B:Nat} {rs:List (Tok×List AV)}(c:Chg g w w' B)(hG:GS g w rs)(m:Nat)(k:Kd)(d:Nat)(hd:w'.heap.size≤d):(ngh g B m k).fr d=0:=by
 have:=c.lt
 have:=c.mono
 show Zn g.fr B m d=0
 rw[qo _ _ _ (by omega)]
 exact hG.frb d (by omega)
def Cel(fr:Nat→Nat)(w:World)(e:PV)(c:Value):Prop:=∃v,zj fr w e v∧v.cells= #[c]∧c.oneCell'=true
theorem Cel.ext {f1 f2:Nat→Nat} {w1 w2:World}(h:Ext f1 w1 f2 w2) {e:PV} {c:Value}:Cel f1 w1 e c→Cel f2 w2 e c:=fun⟨v,r,h1,h2⟩=>⟨v,r.ext h,h1,h2⟩
theorem Cel.one {fr:Nat→Nat} {w:World} {e:PV} {c:Value}(h:e.one=true):Cel fr w e c→zj fr w e c:=fun⟨v,r,h1,_⟩=>by
 have:=zj.one h r
 have h2:v.cells= #[v]:=jx this
 rw[h1]at h2
 have:c=v:=by simpa using h2
 rw[this];exact r
theorem Cel.of {fr:Nat→Nat} {w:World} {e:PV} {v:Value}(h:e.one=true)(r:zj fr w e v):Cel fr w e v:=⟨v,r,jx (zj.one h r),zj.one h r⟩
theorem LeA.ag {xs:List AV} {ys:List PV}(h:za8 xs=some ys):LeA (.ag xs) (.p (.agg ys)):=fun g w v r=>by
 have:=K6 (x:=.ag xs) (y:=.agg ys) (by simp[toP,h]) r
 simpa only[zb]using this
end Go.AM
end
section
namespace Go.Proofs.YtcgfdhdcihmeeaaGreat
open Go.AM
set_option maxHeartbeats 4000000
set_option maxRecDepth 10000
def QX(L:List (List Int)):Nat:=(L.map List.length).sum
theorem VQ(L:List (List Int)):L.flatten.length=QX L:=by simp[QX,List.length_flatten]
theorem zf3 {L:List (List Int)} {i:Nat}(h:i<L.length):QX (L.take (i+1))=QX (L.take i)+L[i].length:=by
 rw[List.take_succ_eq_append_getElem h]
 simp only[QX,List.map_append,List.sum_append,List.map_cons,List.map_nil,List.sum_cons,List.sum_nil,Nat.add_zero]
theorem zf7(L:List (List Int))(i:Nat):QX (L.take i)≤QX L:=by
 have h:L.flatten.length=(L.take i).flatten.length+(L.drop i).flatten.length:=by
  rw[←List.length_append,←List.flatten_append,List.take_append_drop]
 rw[VQ,VQ]at h
 omega
end Go.Proofs.YtcgfdhdcihmeeaaGreat
end
section
namespace Go.Proofs.YtcgfdhdcihmeeaaGreat
open Go.AM
set_option maxHeartbeats 4000000
set_option maxRecDepth 10000
def znp(L:List (List Int))(a:Int):PV:=.agg [yS L,.int .i64 a]
theorem zdH(L:List (List Int)):(Zg L).length=L.length:=by simp[Zg]
theorem zgY(b:List Int)(m:Nat):∃k v,elemAt (zK b) m=.int k v:=by
 by_cases h:m<b.length
 ·exact⟨_,_,by rw[zK,zp (fun r=>PV.int .i32 r) b _ h]⟩
 ·refine⟨default,default,?_⟩
  simp[elemAt,zK,List.getD,List.getElem?_eq_none (by simpa using h)];rfl
def zhk:List Int→List Int→Nat
 |x::a,y::b=>if x=y then zhk a b+1 else 0
 |_,_=>0
def zlr(a b:List Int):Nat:=zhk a.reverse b.reverse
end Go.Proofs.YtcgfdhdcihmeeaaGreat
end
section
namespace Go.Proofs.YtcgfdhdcihmeeaaGreat
open Go.AM
set_option maxHeartbeats 4000000
set_option maxRecDepth 10000
theorem vV {l:List Int} {j:Nat}(h:j<l.length):(l.take (j+1)).reverse=l[j]::(l.take j).reverse:=by
 rw[←List.take_append_getElem h];simp
theorem ZC {l:List Int} {j:Nat}(h:j<l.length):elemAt (zK l) j=.int .i32 l[j]:=by rw[zK,zp (fun r=>PV.int .i32 r) l j h]
def Qc(rows:List Row)(seen:Bool):List Int→Bool
 | []=>false
 |y::ys=>if ZR rows y=2 then seen else if ZR rows y=0 then false else Qc rows (seen || decide (ZR rows y=1)) ys
def Uy(rows:List Row)(pre:List Int)(x:Int):Bool:=if ZR rows x=2 then Qc rows false pre else false
theorem Xr [Gi] {rows:List Row}(hw:ZX rows)(l:List Int)(n:Nat)(h:n<l.length)(hl:l.length<2^31)(hr:∀x∈l,zY x):
  CR Tryz.prog 110 [] [.p (zU rows),.p (zA l),.p (.int .i64 n)] [] (is (.p (.bool (Uy rows (l.take n).reverse l[n])))):=by
 refine zC mixed 10 [] Tryz.func110 rfl (by kernel_rfl) rfl (by simp) (by simp) ?_
 have em:=ZC h
 have hx:=hr _ (List.getElem_mem h)
 generalize l[n]=x at em hx
 have h':(n:Int)<l.length:=by omega
 simp (maxSteps:=1000000) [go_sem,Tryz.f110,zA,zX,h',em]
 refine⟨⟨rfl,by simp[Tryz.f137]⟩,zd [] (zfd hw hx) (by simp[go_sem]) ⟨by simp[go_sem],by simp[go_sem]⟩ (by simp[go_sem]) ?_⟩
 rintro _ rs ⟨rfl,rfl⟩
 by_cases c:ZR rows x=2
 ·have w1:IntKind.i64.wrap ((n:Int)-1)=(n:Int)-1:=wrap64 (by omega) (by omega)
  simp (maxSteps:=1000000) [go_sem,c,w1,Uy]
  refine zE (fun s:Bool×Nat=>s.2≤n∧Qc rows false (l.take n).reverse=Qc rows s.1 (l.take s.2).reverse) (fun s=>[(7,.p (.bool s.1)),(8,.p (.int .i64 ((s.2:Int)-1))),(9,.z8)]) (fun _=>[]) (fun s=>s.2) (false,n) ⟨by simp,rfl⟩ (by simp[go_sem,LeS,leV,leR,leA]) (fun s hs=>?_)
  obtain⟨seen,k⟩:=s
  obtain⟨h1,h2⟩:=hs
  simp only at h1 h2
  cases k with
  |zero=>
   rw[h2]
   simp (maxSteps:=1000000) [go_sem,Qc]
   exact zh (.p (.bool false)) rfl (by simp[go_sem,zf,leA,leT]) ⟨rfl,rfl⟩
  |succ j=>
   have hj:j<l.length:=by omega
   have hj':(j:Int)<l.length:=by omega
   rw[vV hj,Qc]at h2
   have em:=ZC hj
   have hy:=hr _ (List.getElem_mem hj)
   generalize l[j]=y at em hy h2
   have w2:IntKind.i64.wrap ((j:Int)-1)=(j:Int)-1:=wrap64 (by omega) (by omega)
   simp (maxSteps:=1000000) [go_sem,zX,hj',em]
   refine⟨⟨rfl,by simp[Tryz.f137]⟩,zd [] (zfd hw hy) (by simp[go_sem]) ⟨by simp[go_sem],by simp[go_sem]⟩ (by simp[go_sem]) ?_⟩
   rintro _ rs ⟨rfl,rfl⟩
   generalize ZR rows y=v at h2
   by_cases v2:v=2
   ·rw[h2,if_pos v2]
    simp (maxSteps:=1000000) [go_sem,v2]
    exact zh (.p (.bool seen)) rfl (by simp[go_sem,zf,leA,leT]) ⟨rfl,rfl⟩
   rw[if_neg v2]at h2
   by_cases v0:v=0
   ·rw[h2,if_pos v0]
    simp (maxSteps:=1000000) [go_sem,v0]
    exact zh (.p (.bool false)) rfl (by simp[go_sem,zf,leA,leT]) ⟨rfl,rfl⟩
   rw[if_neg v0]at h2
   by_cases v1:v=1
   ·simp (maxSteps:=1000000) [go_sem,v1,w2]
    exact zg (true,j) ⟨by show j≤n;omega,by rw[h2,v1];simp⟩ (by simp[go_sem,LeS,leV,leR,leA]) (by show j<j+1;omega)
   ·simp (maxSteps:=1000000) [go_sem,v0,v1,v2,w2]
    exact zg (seen,j) ⟨by show j≤n;omega,by rw[h2];simp[v1]⟩ (by simp[go_sem,LeS,leV,leR,leA]) (by show j<j+1;omega)
 ·have e:Uy rows (l.take n).reverse x=false:=by unfold Uy;rw[if_neg c]
  rw[e]
  simp (maxSteps:=1000000) [go_sem,c]
  exact zh (.p (.bool false)) rfl (by simp[go_sem,zf,leA,leT]) ⟨rfl,rfl⟩
def jK(rows:List Row):List Int→Bool
 | []=>false
 |y::ys=>if aL rows 5 y=1 then true else if zx rows y=4 then jK rows ys else false
def Uq(rows:List Row)(p:Int)(pre:List Int)(x:Int):Bool:=if aL rows 5 x=1 then(if zx rows p=5 then jK rows pre else false)else false
theorem zcO [Gi] {rows:List Row}(hw:ZX rows)(l:List Int)(n m:Nat)(hm:n=m+1)(h:n<l.length)(hl:l.length<2^31)(hr:∀x∈l,zY x):
  CR Tryz.prog 111 [] [.p (zU rows),.p (zA l),.p (.int .i64 n)] [] (is (.p (.bool (Uq rows l[m] (l.take m).reverse l[n])))):=by
 refine zC mixed 8 [] Tryz.func111 rfl (by kernel_rfl) rfl (by simp) (by simp) ?_
 have em:=ZC h
 have hx:=hr _ (List.getElem_mem h)
 generalize l[n]=x at em hx
 have g:m<l.length:=by omega
 have em2:=ZC g
 have hp:=hr _ (List.getElem_mem g)
 generalize l[m]=p at em2 hp
 have h':(n:Int)<l.length:=by omega
 have g':(m:Int)<l.length:=by omega
 have w1:IntKind.i64.wrap ((n:Int)-1)=(m:Int):=by rw[wrap64 (by omega) (by omega)];omega
 have w2:IntKind.i64.wrap ((n:Int)-2)=(m:Int)-1:=by rw[wrap64 (by omega) (by omega)];omega
 simp (maxSteps:=1000000) [go_sem,Tryz.f111,zA,zX,h',em]
 refine⟨⟨rfl,by simp[Tryz.f135]⟩,zd [] (uS rows 5 x hw.n hx) (by simp[go_sem]) ⟨by simp[go_sem],by simp[go_sem]⟩ (by simp[go_sem]) ?_⟩
 rintro _ rs ⟨rfl,rfl⟩
 by_cases c:aL rows 5 x=1
 ·simp (maxSteps:=1000000) [go_sem,c,w1,zX,g',em2,Uq]
  refine⟨⟨rfl,by simp[Tryz.f104]⟩,zd [] (jh hw hp) (by simp[go_sem]) ⟨by simp[go_sem],by simp[go_sem]⟩ (by simp[go_sem]) ?_⟩
  rintro _ rs ⟨rfl,rfl⟩
  by_cases c5:zx rows p=5
  ·simp (maxSteps:=1000000) [go_sem,c5,w2]
   refine zE (fun k:Nat=>k≤m∧jK rows (l.take m).reverse=jK rows (l.take k).reverse) (fun k=>[(7,.p (.int .i64 ((k:Int)-1)))]) (fun _=>[]) (fun k=>k) m ⟨by omega,rfl⟩ (by simp[go_sem,LeS,leV,leR,leA]) (fun k hs=>?_)
   obtain⟨h1,h2⟩:=hs
   cases k with
   |zero=>
    rw[h2]
    simp (maxSteps:=1000000) [go_sem,jK]
    exact zh (.p (.bool false)) rfl (by simp[go_sem,zf,leA,leT]) ⟨rfl,rfl⟩
   |succ j=>
    have hj:j<l.length:=by omega
    have hj':(j:Int)<l.length:=by omega
    rw[vV hj,jK]at h2
    have em:=ZC hj
    have hy:=hr _ (List.getElem_mem hj)
    generalize l[j]=y at em hy h2
    have w2:IntKind.i64.wrap ((j:Int)-1)=(j:Int)-1:=wrap64 (by omega) (by omega)
    simp (maxSteps:=1000000) [go_sem,zX,hj',em]
    refine⟨⟨rfl,by simp[Tryz.f135]⟩,zd [] (uS rows 5 y hw.n hy) (by simp[go_sem]) ⟨by simp[go_sem],by simp[go_sem]⟩ (by simp[go_sem]) ?_⟩
    rintro _ rs ⟨rfl,rfl⟩
    by_cases v1:aL rows 5 y=1
    ·rw[h2,if_pos v1]
     simp (maxSteps:=1000000) [go_sem,v1]
     exact zh (.p (.bool true)) rfl (by simp[go_sem,zf,leA,leT]) ⟨rfl,rfl⟩
    rw[if_neg v1]at h2
    simp (maxSteps:=1000000) [go_sem,zX,hj',em,v1]
    refine⟨⟨rfl,by simp[Tryz.f104]⟩,zd [] (jh hw hy) (by simp[go_sem]) ⟨by simp[go_sem],by simp[go_sem]⟩ (by simp[go_sem]) ?_⟩
    rintro _ rs ⟨rfl,rfl⟩
    by_cases v4:zx rows y=4
    ·rw[if_pos v4]at h2
     simp (maxSteps:=1000000) [go_sem,v4,w2]
     exact zg j ⟨by show j≤m;omega,h2⟩ (by simp[go_sem,LeS,leV,leR,leA]) (by show j<j+1;omega)
    ·rw[h2,if_neg v4]
     simp (maxSteps:=1000000) [go_sem,v4]
     exact zh (.p (.bool false)) rfl (by simp[go_sem,zf,leA,leT]) ⟨rfl,rfl⟩
  ·simp (maxSteps:=1000000) [go_sem,c5]
   exact zh (.p (.bool false)) rfl (by simp[go_sem,zf,leA,leT]) ⟨rfl,rfl⟩
 ·have e:Uq rows p (l.take m).reverse x=false:=by unfold Uq;rw[if_neg c]
  rw[e]
  simp (maxSteps:=1000000) [go_sem,c,w1,zX,g',em2]
  exact zh (.p (.bool false)) rfl (by simp[go_sem,zf,leA,leT]) ⟨rfl,rfl⟩
def Qa(rows:List Row):List Int→Nat
 | []=>0
 |y::ys=>if zx rows y=6 then Qa rows ys+1 else 0
theorem zgZ(rows:List Row)(l:List Int):Qa rows l≤l.length:=by
 induction l with
 |nil=>simp[Qa]
 |cons y ys ih=>unfold Qa;split<;>simp<;>omega
def WQ(rows:List Row)(pre:List Int)(x:Int):Bool:=if zx rows x=6 then decide (Qa rows pre%2=1)else false
theorem zde [Gi] {rows:List Row}(hw:ZX rows)(l:List Int)(n:Nat)(h:n<l.length)(hl:l.length<2^31)(hr:∀x∈l,zY x):
  CR Tryz.prog 112 [] [.p (zU rows),.p (zA l),.p (.int .i64 n)] [] (is (.p (.bool (WQ rows (l.take n).reverse l[n])))):=by
 refine zC mixed 9 [] Tryz.func112 rfl (by kernel_rfl) rfl (by simp) (by simp) ?_
 have em:=ZC h
 have hx:=hr _ (List.getElem_mem h)
 generalize l[n]=x at em hx
 have h':(n:Int)<l.length:=by omega
 simp (maxSteps:=1000000) [go_sem,Tryz.f112,zA,zX,h',em]
 refine⟨⟨rfl,by simp[Tryz.f104]⟩,zd [] (jh hw hx) (by simp[go_sem]) ⟨by simp[go_sem],by simp[go_sem]⟩ (by simp[go_sem]) ?_⟩
 rintro _ rs ⟨rfl,rfl⟩
 by_cases c:zx rows x=6
 ·have w1:IntKind.i64.wrap ((n:Int)-1)=(n:Int)-1:=wrap64 (by omega) (by omega)
  have hfl:=zgZ rows (l.take n).reverse
  rw[List.length_reverse,List.length_take]at hfl
  have ht:((Qa rows (l.take n).reverse:Nat):Int).tmod 2=((Qa rows (l.take n).reverse%2:Nat):Int):=by rw[Int.tmod_eq_emod_of_nonneg (by omega)];omega
  simp (maxSteps:=1000000) [go_sem,c,w1,WQ]
  generalize hF:Qa rows (l.take n).reverse=F at hfl ht
  refine zE (fun s:Nat×Nat=>s.2≤n∧F=s.1+Qa rows (l.take s.2).reverse) (fun s=>[(7,.p (.int .i64 (s.1:Nat))),(8,.p (.int .i64 ((s.2:Int)-1)))]) (fun _=>[]) (fun s=>s.2) (0,n) ⟨by simp,by simp[hF]⟩ (by simp[go_sem,LeS,leV,leR,leA]) (fun s hs=>?_)
  obtain⟨q,k⟩:=s
  obtain⟨h1,h2⟩:=hs
  simp only at h1 h2
  cases k with
  |zero=>
   obtain⟨kk,vv,e0⟩:=zgY l 0
   simp only[List.take_zero,List.reverse_nil,Qa,Nat.add_zero]at h2
   subst h2
   simp (maxSteps:=1000000) [go_sem,e0,ht]
   exact zh (.p (.bool (decide (F%2=1)))) rfl (by simp[go_sem,zf,leA,leT];omega) ⟨rfl,rfl⟩
  |succ j=>
   have hj:j<l.length:=by omega
   have hj':(j:Int)<l.length:=by omega
   rw[vV hj,Qa]at h2
   have em:=ZC hj
   have hy:=hr _ (List.getElem_mem hj)
   generalize l[j]=y at em hy h2
   have w2:IntKind.i64.wrap ((j:Int)-1)=(j:Int)-1:=wrap64 (by omega) (by omega)
   simp (maxSteps:=1000000) [go_sem,zX,hj',em]
   refine⟨⟨rfl,by simp[Tryz.f104]⟩,zd [] (jh hw hy) (by simp[go_sem]) ⟨by simp[go_sem],by simp[go_sem]⟩ (by simp[go_sem]) ?_⟩
   rintro _ rs ⟨rfl,rfl⟩
   by_cases v6:zx rows y=6
   ·rw[if_pos v6]at h2
    have w3:IntKind.i64.wrap ((q:Int)+1)=((q+1:Nat):Int):=zD (by omega)
    simp (maxSteps:=1000000) [go_sem,v6,w2,w3]
    exact zg (q+1,j) ⟨by show j≤n;omega,by show F=q+1+Qa rows (l.take j).reverse;omega⟩ (by simp[go_sem,LeS,leV,leR,leA]) (by show j<j+1;omega)
   ·rw[if_neg v6,Nat.add_zero]at h2
    subst h2
    simp (maxSteps:=1000000) [go_sem,v6,ht]
    exact zh (.p (.bool (decide (F%2=1)))) rfl (by simp[go_sem,zf,leA,leT];omega) ⟨rfl,rfl⟩
 ·have e:WQ rows (l.take n).reverse x=false:=by unfold WQ;rw[if_neg c]
  rw[e]
  simp (maxSteps:=1000000) [go_sem,c]
  exact zh (.p (.bool false)) rfl (by simp[go_sem,zf,leA,leT]) ⟨rfl,rfl⟩
end Go.Proofs.YtcgfdhdcihmeeaaGreat
end
