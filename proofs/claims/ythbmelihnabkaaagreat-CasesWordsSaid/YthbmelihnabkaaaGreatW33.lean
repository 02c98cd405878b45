/- A part of the proof of this seat's statements, by an abstract machine: what each operation does to values, and what the law's functions compute. Conditions: as each law says. -/
import Derived.Test.YthbmelihnabkaaaGreatW32
import Derived.Test.YthbmelihnabkaaaGreatW30
import Derived.Test.YthbmelihnabkaaaGreatW31
section
namespace Go.AM
def YB [Gi](P:Program)(E:Ent)(l:Nat)(pins:List Tok)(V4:List Value)(S:St)(R:List (Tok×List AV)→Prop):Prop:=
 ∀g a w,SR E S g a w→YieldAt Fence.wide 0 P l V4.toArray w fun e w'=>e=.returned (.bool true)∧∃S' g' a' gl,SR ⟨w,g,gl⟩ S' g' a' w'∧S'.pin=pins∧R S'.rs
def ZP [Gi](P:Program)(E:Ent)(c:Code)(Q:Exit→St→Prop)(S:St):Prop:=∀(g:Gh) (a:Act) (w:World),SR E S g a w→c.wp P (post E Q) a w
section
variable [Gi] {P:Program} {E:Ent} {Q:Exit→St→Prop} {S:St}
theorem ZP.xB {D:List Nat}(hm:P.follows .mixedOrders=true) {c:Code}(hc:Zp D c=true)(h:wpA P D c Q S):ZP P E c Q S:=fun _ _ _ hS=>Z6 hm c hc h hS
def zd5(P:Program)(E:Ent)(y:Code)(Q:Exit→St→Prop):Exit→St→Prop
 |.normal,S'=>ZP P E y Q S'
 |e,S'=>Q e S'
@[go_sem] theorem zk4 {y : Code} {S' : St} : zd5 P E y Q .normal S' = ZP P E y Q S' := rfl
@[go_sem] theorem znI {y : Code} {S' : St} : zd5 P E y Q .ret S' = Q .ret S' := rfl
@[go_sem] theorem zmF {y : Code} {S' : St} {i : Nat} : zd5 P E y Q (.exit i) S' = Q (.exit i) S' := rfl
theorem ZP.seq {x y:Code}(h:ZP P E x (zd5 P E y Q) S):ZP P E (.seq x y) Q S:=fun g a w hS=>by
 refine wp_seq (wp_mono (h g a w hS) ?_)
 rintro e a' w' ⟨S',g',hq,hs⟩
 cases e with
 |normal=>exact hq g' a' w' hs
 |_=>exact⟨S',g',hq,hs⟩
theorem ZP.Zm {D:List Nat}(hm:P.follows .mixedOrders=true) {x y:Code}(hc:Zp D x=true)(h:wpA P D x (zd5 P E y Q) S):ZP P E (.seq x y) Q S:=.seq (.xB hm hc h)
theorem ZP.block {id:Nat} {c:Code}(h:ZP P E c (zhs id Q) S):ZP P E (.block id c) Q S:=fun g a w hS=>by
 refine wp_block (wp_mono (h g a w hS) ?_)
 rintro e a' w' ⟨S',g',hq,hs⟩
 cases e with
 |exit i=>
  simp only[Exit.inBlock]
  simp only[zhs]at hq
  split
  ·rename_i hi;rw[if_pos hi]at hq;exact⟨S',g',hq,hs⟩
  ·rename_i hi;rw[if_neg hi]at hq;exact⟨S',g',hq,hs⟩
 |_=>exact⟨S',g',hq,hs⟩
end
def zgv {ι:Type}(inv:ι→Prop)(st:ι→St)(m:ι→Nat)(i:ι)(Q:Exit→St→Prop):Exit→St→Prop
 |.normal,S'=>∃j,inv j∧LeR S' (st j)∧m j<m i
 |e,S'=>Q e S'
@[go_sem] theorem zmn {Q : Exit → St → Prop} {ι : Type} {inv : ι → Prop} {st : ι → St} {m : ι → Nat} {i : ι} {k : Nat} {S' : St} : zgv inv st m i Q (.exit k) S' = Q (.exit k) S' := rfl
@[go_sem] theorem znK {Q : Exit → St → Prop} {ι : Type} {inv : ι → Prop} {st : ι → St} {m : ι → Nat} {i : ι} {S' : St} : zgv inv st m i Q .ret S' = Q .ret S' := rfl
theorem JC {Q:Exit→St→Prop} {ι:Type} {inv:ι→Prop} {st:ι→St} {m:ι→Nat} {i:ι} {S':St}(j:ι)(h1:inv j)(h2:LeS S' (st j))(h3:m j<m i):zgv inv st m i Q .normal S':=⟨j,h1,.inl h2,h3⟩
section
variable [Gi] {P:Program} {E:Ent} {Q:Exit→St→Prop} {S:St}
theorem ZP.loop {c:Code} {ι:Type}(inv:ι→Prop)(st:ι→St)(m:ι→Nat)(i:ι)(hi:inv i)(h0:LeS S (st i))(h:∀i,inv i→ZP P E c (zgv inv st m i Q) (st i)):ZP P E (.loop c) Q S:=fun g a w hS=>by
 obtain⟨g0,h0⟩:=hS.le h0
 refine YU (fun i a w=>inv i∧∃g,SR E (st i) g a w) m (i₀:=i) ⟨hi,g0,h0⟩ ?_
 rintro i a w ⟨hi,g,hs⟩
 refine wp_mono (h i hi g a w hs) ?_
 rintro e a' w' ⟨S',g',hq,hs'⟩
 cases e with
 |normal=>
  obtain⟨j,hj,hl,hlt⟩:=hq
  obtain⟨g'',h''⟩:=hs'.leR hl
  exact⟨j,⟨hj,g'',h''⟩,hlt⟩
 |_=>exact⟨S',g',hq,hs'⟩
theorem ZP.zlR {c:Operand} {x y:Code}(hv:S.ev c=.p (.bool false))(h:ZP P E y Q S):ZP P E (.cond c x y) Q S:=fun g a w hS=>by
 have hr:=hS.ev c
 rw[hv]at hr
 simp only[zb,zl]at hr
 exact wp_cond_false hr (h g a w hS)
@[go_sem] def znf : AV → Option Value
 |.p (.int k n)=>some (.int k n)
 |.p (.bool b)=>some (.bool b)
 |_=>none
end
theorem zhc {g:Gh} {w:World} {x:AV} {u v:Value}(h:znf x=some u)(r:zb g w x v):v=u:=by
 unfold znf at h
 split at h
 ·injection h with h;subst h;simpa only[zb,zl]using r
 ·injection h with h;subst h;simpa only[zb,zl]using r
 ·cases h
@[go_sem] def Wi (S : St) : List Operand → Prop × Option (List Value)
 | []=>(True,some [])
 |x::l=>((unG (S.ev x)).1∧(Wi S l).1,match znf (unG (S.ev x)).2,(Wi S l).2 with
  |some v,some vs=>some (v::vs)
  |_,_=>none)
section
variable [Gi] {P:Program} {E:Ent} {Q:Exit→St→Prop} {S:St}
theorem Jd {g:Gh} {a:Act} {w:World}(hS:SR E S g a w):∀{l:List Operand} {vs:List Value},(Wi S l).1→(Wi S l).2=some vs→l.map a.eval=vs
 | [],vs,_,h=>by simp only[Wi,Option.some.injEq]at h;subst h;rfl
 |x::l,vs,h1,h=>by
  simp only[Wi]at h1 h
  split at h
  ·rename_i v vs' e1 e2
   injection h with h;subst h
   rw[List.map_cons,Jd hS h1.2 e2,zhc e1 (zD h1.1 (hS.ev x))]
  ·cases h
theorem zf5 {ops:Array Oper} {K:St→Prop} {Q':Exit→Act→World→Prop}:∀(l rest:List Oper) {S:St} {g:Gh} {a:Act} {w:World},l.all ZB=true→Qb P ops l S K→SR E S g a w→
  (∀S' g' a' w',K S'→SR E S' g' a' w'→wpListIn Fence.wide 0 P ops Q' rest a' w')→wpListIn Fence.wide 0 P ops Q' (l++rest) a w
 | [],rest,S,g,a,w,_,h,hS,hk=>hk _ _ _ _ h hS
 |o::l,rest,S,g,a,w,hd,h,hS,hk=>by
  simp only[List.all_cons,Bool.and_eq_true]at hd
  unfold Qb at h
  cases hc:qT ops S o with
  |none=>simp only[hc]at h
  |some c=>
   simp only[hc]at h
   have:=wJ (P:=P) hS hc h (next:=fun a' w'=>∃S' g',Qb P ops l S' K∧SR E S' g' a' w') (Q:=fun _ _ _=>False) (fun S' g' a' w' hk hs=>⟨S',g',hk,hs⟩)
   have go:∀a' w',(∃S' g',Qb P ops l S' K∧SR E S' g' a' w')→wpListIn Fence.wide 0 P ops Q' (l++rest) a' w':=by
    rintro a' w' ⟨S',g',hk',hs⟩
    exact zf5 l rest hd.2 hk' hs hk
   rw[List.cons_append]
   unfold wpListIn
   split
   ·rename_i hw
    rw[if_pos hw]at this
    have h1:=zaN (r:=none) (n:=0) hd.1 (fun⟨_,_,h⟩=>h) this
    refine⟨h1.1,?_⟩
    have h2:=h1.2
    show o.uponIn Fence.wide 0 P a _ _ ((o.semAt (Qz none).round a.eval).run P w)
    generalize (o.semAt (Qz none).round a.eval).run P w=res at h2
    match res,h2 with
    |.ok (.value v) w',k=>exact go _ _ k
    |.ok .skip w',k=>exact go _ _ k
    |.ok (.defer d) w',k=>exact go _ _ k
    |.ok (.enter f args) w',k=>
     refine⟨k.1,CallsIn.mono k.2 fun e w'' k=>?_⟩
     cases e with
     |returned v=>exact go _ _ k
     |panicked c=>exact k.elim
     |outgrown=>obtain⟨_,_,k⟩:=k;exact k.elim
    |.ok (.row row args) w',k=>exact⟨k.1,RowsIn.mono k.2 fun v w'' k=>go _ _ k⟩
    |.ok (.round l' f t as1 b) w',k=>
     refine⟨k.1,RoundIn.mono k.2 fun e w'' k=>?_⟩
     cases e with
     |returned v=>exact go _ _ k
     |panicked c=>exact k.elim
     |outgrown=>obtain⟨_,_,k⟩:=k;exact k.elim
    |.halt (.panic v) w',k=>exact k.elim
   ·rename_i hw
    rw[if_neg hw]at this
    exact⟨fun _ _=>trivial,go _ _ this⟩
theorem ZP.yield {id l d:Nat} {pre suf:List Oper} {o:Oper} {ops:List Oper}(hops:ops=pre++o::suf) {x:Operand} {as1:Array Operand} {tys:Array TypeId}(ho:o.op=.call ⟨.value x,as1,tys⟩)(hdst:o.dst=some d)
  {pins:List Tok} (hd1:pre.all ZB=true) (hd2:suf.all ZB=true)
  (h:Qb P ops.toArray pre {S with ts:=[]} fun S1=>∃c V4 R,qT ops.toArray S1 o=some c∧c≠some false∧(unG (S1.ev x)).1∧(unG (S1.ev x)).2=.p (.opq (.func (.yield l) #[] #[]))∧(Wi S1 as1.toList).1∧(Wi S1 as1.toList).2=some V4∧d<S1.n∧
   S1.pin=pins∧YB P E l pins V4 S1 R∧∀rs,R rs→Qb P ops.toArray suf ((vg S1 pins rs).set d (.p (.bool true))) (Q .normal)):ZP P E (.region id ops.toArray false) Q S:=by
 intro g a w hS
 refine(wpIn_wide (n:=0)).1 (kx (K:=fun a' w'=>∃S' g',Q .normal S'∧SR E S' g' a' w') (wpIn_region_list ?_) fun a' w' k=>k)
 show wpListIn Fence.wide 0 P ops.toArray (JB fun a' w'=>∃S' g',Q .normal S'∧SR E S' g' a' w') ops a w
 generalize hoa:ops.toArray=oa at h⊢
 subst hops
 refine zf5 pre (o::suf) hd1 h hS.clean ?_
 rintro S1 g1 a1 w1 ⟨c,V4,R,hg,hc,hu,hx,hl1,hl2,hd,hp,hY,hrest⟩ hs
 obtain⟨dst,op,tt,pos,after,guard⟩:=o
 simp only at ho hdst
 subst ho
 subst hdst
 have hw:Region.wanted ⟨some d,.call ⟨.value x,as1,tys⟩,tt,pos,after,guard⟩ (yielded oa a1.tmps)=true:=by
  cases c with
  |none=>exact yS hg _
  |some b=>
   rw[kL hs hg]
   cases b with
   |true=>rfl
   |false=>exact absurd rfl hc
 unfold wpListIn
 rw[if_pos hw]
 unfold Oper.wpIn
 rw[Oper.semAt_eq _ _ _ (fun c=>by simp)]
 refine⟨fun _ _=>trivial,?_⟩
 have hr:=zD hu (hs.ev x)
 rw[hx]at hr
 simp only[zb,zl]at hr
 have hargs:=Jd hs hl1 hl2
 obtain⟨fn,tm,asg,bd,hy1,hy2⟩:=hY g1 a1 w1 hs
 have hrun:(execOp a1.eval ⟨some d,.call ⟨.value x,as1,tys⟩,tt,pos,after,guard⟩).run P w1=.ok (.round l fn tm asg bd) w1:=by
  have ha:(as1.map a1.eval)=V4.toArray:=by
   rw[←hargs];apply Array.ext';simp
  simp only[execOp,resolve,hr,Deferred.ofValue,Sem.run_bind,Sem.run_pure,Result.andThen_ok,invoke]
  rw[←hy1]
  congr 1
  simp[ha]
 rw[hrun]
 refine⟨fun e=>(by cases e),RoundIn.mono hy2 ?_⟩
 rintro e w' ⟨rfl,S',g',a',gl,hs',hp',hR⟩
 have c0:=hs.comp (show SR ⟨w1,g1,hs.gl⟩ S' g' a' w' from hs') (fun t ht=>by rw[hp'];rw[hp]at ht;exact ht)
 have kv:=KV.of hs (show SR ⟨w1,g1,hs.gl⟩ S' g' a' w' from hs') hp'
 have hb:=hs.back c0 kv rfl
 have hb2:=hb.put (d:=d) (x:=.p (.bool true)) (v:=.bool true) (by simp only[zb,zl]) hd
 exact uz (r:=none) (n:=0) (uA _) suf _ _ hd2 (kN (K:=Q .normal) (fun S' g' a' w' hk hs=>⟨S',g',hk,hs⟩) suf (hrest _ hR) hb2)
end
theorem ZP.zkC [Gi] {P:Program} {E:Ent} {Q:Exit→St→Prop} {S:St} {id l d:Nat}(i:Nat) {o:Oper} {ops:List Oper}(hi:ops[i]?=some o) {x:Operand} {as1:Array Operand} {tys:Array TypeId}(ho:o.op=.call ⟨.value x,as1,tys⟩)(hdst:o.dst=some d)
  {pins:List Tok} (hd1:(ops.take i).all ZB=true) (hd2:(ops.drop (i+1)).all ZB=true)
  (h:Qb P ops.toArray (ops.take i) {S with ts:=[]} fun S1=>∃c V4 R,qT ops.toArray S1 o=some c∧c≠some false∧(unG (S1.ev x)).1∧(unG (S1.ev x)).2=.p (.opq (.func (.yield l) #[] #[]))∧(Wi S1 as1.toList).1∧(Wi S1 as1.toList).2=some V4∧d<S1.n∧
   S1.pin=pins∧YB P E l pins V4 S1 R∧∀rs,R rs→Qb P ops.toArray (ops.drop (i+1)) ((vg S1 pins rs).set d (.p (.bool true))) (Q .normal)):ZP P E (.region id ops.toArray false) Q S:=by
 refine ZP.yield (pre:=ops.take i) (suf:=ops.drop (i+1)) (o:=o) ?_ ho hdst hd1 hd2 h
 obtain⟨hlt,rfl⟩:=List.getElem?_eq_some_iff.1 hi
 rw[←List.drop_eq_getElem_cons hlt,List.take_append_drop]
def zgQ(pins:List Tok)(R:List (Tok×List AV)→Prop):Exit→St→Prop
 |.normal,S=>S.pin=pins∧R S.rs
 |.ret,S=>S.pin=pins∧R S.rs
 |_,_=>False
@[go_sem] theorem zlX {pins : List Tok} {R : List (Tok × List AV) → Prop} {S : St} : zgQ pins R .normal S = (S.pin = pins ∧ R S.rs) := rfl
@[go_sem] theorem znY {pins : List Tok} {R : List (Tok × List AV) → Prop} {S : St} : zgQ pins R .ret S = (S.pin = pins ∧ R S.rs) := rfl
def itS(fn:Func)(nv:Nat)(ex:List Nat)(l:Nat)(caps:List AV)(rs:List (Tok×List AV))(pins:List Tok):St:=
 {n:=fn.ntmps,nv:=nv,vs:=wE 0 (.p (.opq (.func (.yield l) #[] #[]))::caps),ts:=[],rs:=rs,pin:=pins,ex:=ex}
theorem zmg [Gi] {P:Program} {w:World} {g:Gh} {gl:zbj g w} {f:FuncId} {fn:Func} {c:Code}(nv:Nat)(ex:List Nat)(hf:P.funcs[f]?=some fn)(hb:fn.body=some c)(hres:fn.results= #[])
  {l:Nat} {caps:List AV} {us:List Value} (hcaps:zp g w caps us) (_hnv:caps.length+1≤nv) (hn:caps.length+1≤fn.ntmps) {rs:List (Tok×List AV)} {pins:List Tok} {R:List (Tok×List AV)→Prop} (hG:GS g w rs)
  (h:ZP P ⟨w,g,gl⟩ c (zgQ pins R) (itS fn nv ex l caps rs pins)):
  CallsIn Fence.wide 0 P f (#[.func (.yield l) #[] #[]]++us.toArray) w fun e w'=>(∃v,e=.returned v)∧∃S' g' a',SR ⟨w,g,gl⟩ S' g' a' w'∧S'.pin=pins∧R S'.rs:=by
 have hargs:zp g w (.p (.opq (.func (.yield l) #[] #[]))::caps) (.func (.yield l) #[] #[]::us):=by
  simp only[zp];exact⟨_,_,rfl,by simp only[zb,zl],hcaps⟩
 have hS:SR ⟨w,g,gl⟩ (itS fn nv ex l caps rs pins) g {tmps:=(.func (.yield l) #[] #[]::us).toArray++Array.replicate (fn.ntmps- (.func (.yield l) #[] #[]::us).toArray.size) undef,defers:=[]} w:=by
  have hlen:us.length=caps.length:=by
   clear h _hnv hn hargs
   induction caps generalizing us with
   |nil=>simp only[zp]at hcaps;subst hcaps;rfl
   |cons x xs ih=>simp only[zp]at hcaps;obtain⟨v,vs',rfl,_,h2⟩:=hcaps;simp[ih h2]
  refine⟨by simp[itS];omega,rfl,fun t=>?_,hG.roots,hG.ur,hG.ut,fun b hb=>⟨hG.own b hb,.inr hb⟩,fun b _=>⟨rfl,rfl⟩,Ext.refl _ _,⟨rfl,rfl,rfl⟩,Nat.le_refl _,hG.frb,fun b t hk _=>⟨hk,fun _ hn=>hn⟩⟩
  unfold St.get itS
  split
  ·simp only[wo,Nat.zero_le,if_true,Nat.sub_zero]
   cases hx:(AV.p (.opq (.func (.yield l) #[] #[]))::caps)[t]? with
   |none=>simp only[qt,zb]
   |some x=>
    simp only[qt]
    obtain⟨v,hv,hr⟩:=hargs.get hx
    have hvl:=(List.getElem?_eq_some_iff.1 hv).1
    have:((.func (.yield l) #[] #[]::us).toArray++Array.replicate (fn.ntmps- (.func (.yield l) #[] #[]::us).toArray.size) undef).getD t undef=v:=by
     have h2:=(List.getElem?_eq_some_iff.1 hv).2
     simp only[Array.getD_eq_getD_getElem?,Array.getElem?_append]
     rw[if_pos (by simpa using hvl)]
     simp only[List.getElem?_toArray]
     rw[hv];rfl
    rw[this];exact hr
  ·simp only[look,qt,zb]
 have e0:(#[.func (.yield l) #[] #[]]++us.toArray:Array Value)=(.func (.yield l) #[] #[]::us).toArray:=by simp
 rw[e0]
 have hts:uf fn.results.toList=some []:=by rw[hres];rfl
 refine callsIn_of_wp_marks hf hb trivial (wpIn_mono ((wpIn_wide (n:=0)).2 (h g _ w hS)) ?_)
 have ends:∀u a' w',(u=Exit.normal∨u=Exit.ret)→post ⟨w,g,gl⟩ (zgQ pins R) u a' w'→bodyPostM Fence.wide 0 P fn (fun e w'=>(∃v,e=.returned v)∧∃S' g' a',SR ⟨w,g,gl⟩ S' g' a' w'∧S'.pin=pins∧R S'.rs) u a' w':=by
  rintro u a' w' hu ⟨S',g',hq,hs⟩
  have hq':S'.pin=pins∧R S'.rs:=by rcases hu with rfl|rfl<;>exact hq
  obtain⟨v,h1,_⟩:=Vx (pin:=S'.pin) (R:=fun _ _=>True) hts hs ⟨S'.pin,.tup [],⟨rfl,by simp⟩,⟨trivial,by simp[go_sem,zd,leT]⟩,trivial⟩
  have:=hs.defers
  rcases hu with rfl|rfl<;>·simp only[bodyPostM,this,LeavesInM,LeavesIn];exact⟨v,h1,⟨v,rfl⟩,S',g',a',hs,hq'⟩
 rintro e a' w' hpost
 cases e with
 |normal=>exact ends _ _ _ (.inl rfl) hpost
 |ret=>exact ends _ _ _ (.inr rfl) hpost
 |panic ch=>obtain⟨S',g',hq,_⟩:=hpost;exact hq.elim
 |exit i=>obtain⟨S',g',hq,_⟩:=hpost;exact hq.elim
 |goto i=>obtain⟨S',g',hq,_⟩:=hpost;exact hq.elim
 |outgrown=>obtain⟨S',g',hq,_⟩:=hpost;exact hq.elim
theorem Jv {α:Type}:∀(l l':List (Nat×α)) (t:Nat),look (l++l') t=match look l t with|some x=>some x|none=>look l' t
 | [],l',t=>by simp[look]
 |(k,x)::l,l',t=>by
  simp only[List.cons_append,look]
  split
  ·rfl
  ·exact Jv l l' t
def zfM(S:St)(pins:List Tok)(next:List (Tok×List AV)):Exit→St→Prop
 |.normal,S2=>True∧LeR S2 (lst S [] next pins)
 |_,_=>False
@[go_sem] theorem zkB {S : St} {pins : List Tok} {next : List (Tok × List AV)} {S2 : St} : zfM S pins next .normal S2 = LeR S2 (lst S [] next pins) := by simp [zfM]
theorem zcA.ziQ [Gi] {P:Program} {S:St} {Q:Exit→St→Prop} {sg p q id:Nat} {assign body rest:Code} {D:List Nat}(hm:P.follows .mixedOrders=true)
  {gf:FuncId} {caps:List AV} (hent:((P.funcs[gf]?).map (·.body.isSome))=some true) (hnam:((P.funcs[gf]?).map (·.name))≠some "runtime.NumGoroutine")
  {fn':Func} {c:Code} (nv:Nat) (ex:List Nat) (hf:P.funcs[gf]?=some fn') (hb:fn'.body=some c) (hres:fn'.results= #[]) (hnv:caps.length+1≤nv) (hn:caps.length+1≤fn'.ntmps)
  (V:List (Nat×AV)) (pins:List Tok) (R0:List (Tok×List AV)) (Rend:List (Tok×List AV)→Prop) (hV:V.map (fun x=>(x.1,yZ pins x.2))=V) (hpins:∀t,t∈S.pin→t∈pins)
  (hsg:S.kept sg=true) (hVs:look V sg=none) (h0:LeS S (lst S (V++[(sg,.fn gf caps)]) R0 S.pin)) (hp:p<S.n) (hq:q<S.n) (hca:Qu D assign=true) (hcb:Qu D body=true)
  {ι:Type} (Ok:ι→Prop) (R nxt:ι→List (Tok×List AV)) (arg:ι→Int×Int)
  (hround:∀k,Ok k→wpA P D assign (zaO pins fun S1=>wpA P D body (zfM S pins (nxt k)) S1) (((lst S V (R k) pins).set p (.p (.int .i64 (arg k).1))).set q (.p (.int .i64 (arg k).2))))
  (hiter:∀(E:Ent) (l:Nat),(∀k S1,Ok k→S1.rs=R k→S1.pin=pins→YB P E l pins [.int .i64 (arg k).1,.int .i64 (arg k).2] S1 (fun rs=>rs=nxt k))→ZP P E c (zgQ pins Rend) (itS fn' nv ex l caps R0 pins))
  (hrest:∀rs,Rend rs→zgH P rest Q (lst S V rs S.pin)):zcA P (.block id (.rangeFunc (.tmp sg) #[p,q] assign body)) rest Q S:=by
 intro E g a w hS
 obtain⟨g2,hA⟩:=hS.le h0
 have hgv:=hA.ev (.tmp sg)
 have hev:(lst S (V++[(sg,.fn gf caps)]) R0 S.pin).ev (.tmp sg)=.fn gf caps:=by
  show(lst S (V++[(sg,.fn gf caps)]) R0 S.pin).get sg=_
  have hk:(lst S (V++[(sg,.fn gf caps)]) R0 S.pin).kept sg=true:=hsg
  unfold St.get
  rw[if_pos hk]
  show qt (look (V++[(sg,AV.fn gf caps)]) sg)=_
  rw[Jv,hVs]
  simp[look,qt]
 rw[hev]at hgv
 simp only[zb]at hgv
 obtain⟨lb,hgv,hcaps⟩:=hgv
 have h2:SR E (lst S V R0 S.pin) g2 a w:=by
  refine hA.weaken rfl (fun t=>?_) rfl rfl
  have hk:(lst S (V++[(sg,.fn gf caps)]) R0 S.pin).kept t=(lst S V R0 S.pin).kept t:=rfl
  unfold St.get
  rw[hk]
  split
  ·show LeA (qt (look (V++[(sg,AV.fn gf caps)]) t)) (qt (look V t))
   rw[Jv]
   cases look V t with
   |none=>exact LeA.zU _
   |some x=>exact LeA.refl _
  ·exact LeA.refl _
 have hmono:E.w0.heap.size≤w.heap.size:=hS.mono
 have eg:∀args w,(callFunc gf args).run P w=.ok (.enter gf args) w:=fun args w=>Q2 hent hnam
 refine wpIn_block (wpIn_rangeFunc ?_)
 intro fn hfn
 obtain⟨rec,hrec⟩:∃rec:LoopState→Option Code→Loop,rec=fun st pe=>{state:=st,pending:=pe,fn,tmps:=a.tmps,params:= #[p,q],assign,body,defers:=w.heap.size}:=⟨_,rfl⟩
 obtain⟨W1,hW1⟩:∃W1,(w.alloc (.deferred (some []))).alloc (.loop (rec .ready none))=W1:=⟨_,rfl⟩
 obtain⟨l,hl0⟩:∃l,l=w.heap.size+1:=⟨_,rfl⟩
 have hL1:W1.heap[l]?=some (.loop (rec .ready none)):=by
  rw[←hW1,hl0];have:=World.alloc_heap_new (w.alloc (.deferred (some []))) (.loop (rec .ready none));rwa[World.size_alloc]at this
 have hK1:W1.heap[w.heap.size]?=some (.deferred (some [])):=by
  rw[←hW1,heap_alloc,if_neg (by simp)];exact World.alloc_heap_new w _
 have h3:SR E (lst S V R0 S.pin) g2 a W1:=by rw[←hW1];exact(h2.alloc _).alloc _
 have prot2:∀b,w.heap.size≤b→g2.K b=.prot:=fun b hb=>Classical.byContradiction fun e=>by have:=(h2.own b e).1;omega
 have hmayL:E.may l:=.inl (by omega)
 have hl1:=(Array.getElem?_eq_some_iff.1 hL1).1
 have hD1:=(Array.getElem?_eq_some_iff.1 hK1).1
 have hA1:SR E (lst S (V++[(sg,.fn gf caps)]) R0 S.pin) g2 a W1:=by rw[←hW1];exact(hA.alloc _).alloc _
 have hcaps1:zp g2 W1 caps lb.toList:=by
  have h5:=hA1.ev (.tmp sg)
  rw[hev]at h5
  simp only[zb]at h5
  obtain⟨lb',h6,h7⟩:=h5
  rw[hgv]at h6
  injection h6 with _ _ h6
  subst h6
  exact h7
 have hG1:GS g2 W1 R0:=⟨h3.roots,h3.ur,h3.ut,fun b hb=>(h3.own b hb).1,h3.frb,h3.gl⟩
 have hyield:∀k S1,Ok k→S1.rs=R k→S1.pin=pins→YB P ⟨W1,g2,h3.gl⟩ l pins [.int .i64 (arg k).1,.int .i64 (arg k).2] S1 (fun rs=>rs=nxt k):=by
  intro k S1 hk hr1 hp1 g' a1 A hit
  have c0:=h3.comp hit (fun t ht=>by rw[hp1];exact hpins t ht)
  have hs:=h3.back c0 (KV.of h3 hit hp1) rfl
  have eb0:vg (lst S V R0 S.pin) pins S1.rs=lst S V (R k) S.pin:=by
   show({(lst S V R0 S.pin)with vs:=V.map (fun x=>(x.1,yZ pins x.2)),ts:=[],rs:=S1.rs}:St)=_
   rw[hV,hr1];rfl
  rw[show vg (lst S V R0 S.pin) pins ({S1 with pin:=(lst S V R0 S.pin).pin}:St).rs=lst S V (R k) S.pin from eb0]at hs
  obtain⟨s1,_,hkl⟩:=h3.stays hit hl1 (prot2 _ (by omega))
  have hl:A.heap[l]?=some (.loop (rec .ready none)):=s1.trans hL1
  have hy:=run_yield (P:=P) (args:= #[.int .i64 (arg k).1,.int .i64 (arg k).2]) hl (by rw[hrec];rfl)
  rw[hrec]at hy
  refine⟨fn,_,assign,body,hy,roundIn_of_wpIn hfn ?_⟩
  have eput:({tmps:=((#[p,q]:Array Nat).zip #[Value.int .i64 (arg k).1,Value.int .i64 (arg k).2]).foldl (fun tmps (x:Nat×Value)=>tmps.setIfInBounds x.1 x.2) a.tmps,defers:=[]}:Act)=(a.put (some p) (.int .i64 (arg k).1)).put (some q) (.int .i64 (arg k).2):=by
   have:=hS.defers
   cases a
   simp only at this
   subst this
   simp[Act.put]
  have e1:SR ⟨A,g',hs.gl⟩ (lst S V (R k) pins) g' a A:=hs.zad pins
  have e2:=(e1.put (d:=p) (x:=.p (.int .i64 (arg k).1)) (v:=.int .i64 (arg k).1) (by simp only[zb,zl]) hp).put (d:=q) (x:=.p (.int .i64 (arg k).2)) (v:=.int .i64 (arg k).2) (by simp only[zb,zl]) (by rw[St.zgl];exact hq)
  rw[←eput]at e2
  refine wpIn_mono (QB (r:=some l) (n:=0) hm assign hca (hround k hk) e2) ?_
  rintro e a2 Wa ⟨S2,g1,hq1,hs1⟩
  cases e with
  |normal=>
   obtain⟨hp2,hbody⟩:=hq1
   obtain⟨l1,_,l3⟩:=hs.stays hs1 (Array.getElem?_eq_some_iff.1 hl).1 hkl
   have hlA:=l1.trans hl
   have cA:=hs.comp hs1 (fun t ht=>by rw[hp2];exact hpins t ht)
   have hbr:=run_beginRound (P:=P) hlA (by rw[hrec])
   have c2:=cA.jz (o':=.loop {rec .ready none with state:=.busy}) hlA rfl rfl l3 hmayL
   obtain⟨Wb,hWb⟩:∃Wb,Wb=Wa.putObj l (.loop {rec .ready none with state:=.busy}):=⟨_,rfl⟩
   have hb2:Wb.heap[l]?=some (.loop {rec .ready none with state:=.busy}):=by rw[hWb];exact World.putObj_heap_same (Array.getElem?_eq_some_iff.1 hlA).1
   have hbo:∀b,b≠l→Wb.heap[b]?=Wa.heap[b]?:=fun b hb=>by rw[hWb];exact World.putObj_heap_other hb
   have hbs:Wb.heap.size=Wa.heap.size:=by rw[hWb];simp only[World.putObj_size]
   have kvb:KV g1 Wa g1 Wb pins:=by rw[hWb];exact KV.jz hlA rfl rfl
   have hbout:Wb.os=Wa.os∧Wb.tape=Wa.tape∧Wb.output=Wa.output:=by rw[hWb];exact⟨rfl,rfl,rfl⟩
   rw[←hWb]at c2 hbr
   have e3:=c2.zad pins
   rw[St.ziH hp2]at e3
   refine⟨_,hbr,wpIn_mono (QB (r:=some l) (n:=0) hm body hcb hbody e3) ?_⟩
   rintro e a3 W3 ⟨S3,g3,hq3,hs3⟩
   cases e with
   |normal=>
    obtain⟨g4,hs4⟩:=hs3.leR hq3.2
    obtain⟨l4,_,l6⟩:=c2.stays hs4 (Array.getElem?_eq_some_iff.1 hb2).1 l3
    have hl4:=l4.trans hb2
    have c3:=c2.comp hs4 (fun t ht=>hpins t ht)
    have c4:=c3.jz (o':=.loop (rec .ready none)) hl4 rfl rfl l6 hmayL
    have hrun:=run_endRound (P:=P) none hl4
    rw[hrec]at hrun
    obtain⟨W4,hW4⟩:∃W4,W4=W3.putObj l (.loop (rec .ready none)):=⟨_,rfl⟩
    have h4l:W4.heap[l]?=some (.loop (rec .ready none)):=by rw[hW4];exact World.putObj_heap_same (Array.getElem?_eq_some_iff.1 hl4).1
    have h4o:∀b,b≠l→W4.heap[b]?=W3.heap[b]?:=fun b hb=>by rw[hW4];exact World.putObj_heap_other hb
    have h4s:W4.heap.size=W3.heap.size:=by rw[hW4];simp only[World.putObj_size]
    have h4out:W4.os=W3.os∧W4.tape=W3.tape∧W4.output=W3.output:=by rw[hW4];exact⟨rfl,rfl,rfl⟩
    have kv4:KV g4 W3 g4 W4 pins:=by rw[hW4];exact KV.jz hl4 rfl rfl
    rw[←hW4]at c4
    have chain:∀b,b<A.heap.size→g'.K b=.prot→W4.heap[b]?=A.heap[b]?∧g4.fr b=g'.fr b∧g4.K b=.prot:=fun b hb hkb=>by
     obtain⟨q1,q2,q3⟩:=hs.stays hs1 hb hkb
     have hbW:b<Wb.heap.size:=by
      have h9:A.heap.size≤Wa.heap.size:=hs1.mono
      omega
     obtain⟨q4,q5,q6⟩:=c2.stays hs4 hbW q3
     refine⟨?_,q5.trans q2,q6⟩
     by_cases e:b=l
     ·rw[e,h4l,hl]
     ·rw[h4o b e,q4,hbo b e,q1]
    refine⟨_,W4,?_,rfl,lst S [] (nxt k) pins,g4,a3,hs.gl,⟨c4.size,c4.defers,c4.slots,c4.roots,c4.ur,c4.ut,fun b hb=>⟨(c4.own b hb).1,?_⟩,fun b hb=>?_,?_,?_,?_,c4.frb,fun b t hkb ht=>?_⟩,rfl,rfl⟩
    ·rw[hW4,hrec];exact hrun
    ·rcases Nat.lt_or_ge b A.heap.size with h9|h9
     ·right
      intro e
      exact hb (chain b h9 e).2.2
     ·exact .inl h9
    ·have h9:b<A.heap.size:=Classical.byContradiction fun hc=>hb (.inl (Nat.not_lt.1 hc))
     have h8:g'.K b=.prot:=Classical.byContradiction fun hc=>hb (.inr hc)
     exact⟨(chain b h9 h8).1,(chain b h9 h8).2.1⟩
    ·exact((hs1.ext.trans kvb.ext).trans hs4.ext).trans kv4.ext
    ·exact⟨h4out.1.trans (hs4.out.1.trans (hbout.1.trans hs1.out.1)),h4out.2.1.trans (hs4.out.2.1.trans (hbout.2.1.trans hs1.out.2.1)),h4out.2.2.trans (hs4.out.2.2.trans (hbout.2.2.trans hs1.out.2.2))⟩
    ·have h9:A.heap.size≤Wa.heap.size:=hs1.mono
     have h8:Wb.heap.size≤W3.heap.size:=hs4.mono
     show A.heap.size≤W4.heap.size
     omega
    ·obtain⟨k1,k2⟩:=hs1.pins b t hkb (by rw[hp2];exact ht)
     obtain⟨k3,k4⟩:=hs4.pins b t k1 ht
     have hbl:b≠l:=fun e=>by rw[e,hkl]at hkb;cases hkb
     exact⟨k3,fun n hn=>Blk.of_heap (h4o b hbl) (k4 n (Blk.of_heap (hbo b hbl) (k2 n hn)))⟩
   |ret=>exact False.elim hq3.elim
   |_=>exact hq3.elim
  |_=>exact hq1.elim
 have Qt:=zmg nv ex hf hb hres hcaps1 hnv hn hG1 (hiter ⟨W1,g2,h3.gl⟩ l hyield)
 refine⟨l,[mark w.heap.size],W1,{target:=.fn (.func gf) lb,args:= #[.func (.yield l) #[] #[]]},W1,gf,
  #[.func (.yield l) #[] #[]]++lb,W1,?_,?_,fun _ _=>trivial,?_,fun e=>(by cases e),?_⟩
 ·rw[←hW1,hrec,hl0];exact run_enterLoop_outer _ _ _ _ _
 ·simp only[resolve,hgv]
  simp[go_sem]
 ·simp[invoke,go_sem,eg]
 have ea:({a with defers:=[mark w.heap.size]++a.defers}:Act)=j8 [mark w.heap.size] a:=by rw[hS.defers];rfl
 rw[ea]
 have elb:lb.toList.toArray=lb:=by simp
 rw[elb]at Qt
 refine CallsIn.mono Qt ?_
 rintro e W2 ⟨⟨v,rfl⟩,S',g',a',hs',hp',hR'⟩
 have c0:=h3.comp hs' (fun t ht=>by rw[hp'];exact hpins t ht)
 have hs:=h3.back c0 (KV.of h3 hs' hp') rfl
 have eb0:vg (lst S V R0 S.pin) pins S'.rs=lst S V S'.rs S.pin:=by
  show({(lst S V R0 S.pin)with vs:=V.map (fun x=>(x.1,yZ pins x.2)),ts:=[],rs:=S'.rs}:St)=_
  rw[hV];rfl
 rw[show vg (lst S V R0 S.pin) pins ({S' with pin:=(lst S V R0 S.pin).pin}:St).rs=lst S V S'.rs S.pin from eb0]at hs
 obtain⟨s1,_,hkl⟩:=h3.stays hs' hl1 (prot2 _ (by omega))
 obtain⟨s2,_,hkD⟩:=h3.stays hs' hD1 (prot2 _ (Nat.le_refl _))
 refine⟨none,_,by have:=run_endLoop (P:=P) (s1.trans hL1) (by rw[hrec];simp);rw[hrec]at this;exact this,?_⟩
 exact hrest _ hR' E g' a _ w.heap.size (hs.jz (s1.trans hL1) rfl rfl hkl hmayL) hkD ((World.putObj_heap_other (by omega)).trans (s2.trans hK1)) hmono
end Go.AM
end
section
namespace Go.Proofs.YthbmelihnabkaaaGreat
open Go.AM
set_option maxHeartbeats 4000000
set_option maxRecDepth 10000
def zh(l:List Int):PV:=.sl 1 (zr l)
theorem zhX(l:List Int):(zr l).all PV.fits=true:=by simp[zr,PV.fits]
theorem VR(l:List Int):(zr l).flatMap PV.cells=zr l:=by
 unfold zr
 exact vN l
theorem zC(l:List Int):(zr l).length=l.length:=by simp[zr]
theorem zac(l:List Int):(zr l).map AV.p=zo l:=rfl
theorem zeF [Gi](l:List Int)(h0:l≠ [])(hn:l.length<2^40):CR Tryz.prog 187 [] [.p (zh l)] [] (fun x rs=>x=.la [7] 1 0 l.length∧rs=[([7],zo l)]):=by
 refine qQ [] mixed 3 [] Tryz.func187 rfl (by kernel_rfl) [5] rfl (by simp) (by simp) ?_
 obtain⟨y,l',rfl⟩:∃y l',l=y::l':=by
  cases l with
  |nil=>exact absurd rfl h0
  |cons y l'=>exact⟨y,l',rfl⟩
 simp (maxSteps:=1000000) [go_sem,Tryz.f187,zh,zr]
 simp only[List.length_cons]at hn
 exact⟨by omega,zi [[7]] (.la [7] 1 0 (l'.length+1)) ⟨rfl,by simp⟩ (by simp[go_sem,zd,leA,leT]) ⟨rfl,by simp[go_sem,vN,zo]⟩⟩
theorem zii [Gi]:CR Tryz.prog 187 [] [.p (.opq (.slice none 0 0))] [] (is (.p (.opq (.slice none 0 0)))):=by
 refine qQ [] mixed 3 [] Tryz.func187 rfl (by kernel_rfl) [2] rfl (by simp) (by simp) ?_
 simp (maxSteps:=1000000) [go_sem,Tryz.f187]
 exact zg (.p (.opq (.slice none 0 0))) rfl (by simp[go_sem,zd,leA,leT]) ⟨rfl,rfl⟩
theorem ziM [Gi](c b j f p:PV)(ck cx sk sx:List PV)(M:List Int)(n:Nat):CR Tryz.prog 188 [[0]] [.p (zF c b j f p ck cx sk sx),.la [0] 1 0 n] [([0],zo M)]
  (fun x rs=>x=.fn 208 [.lp [3] 0,.lp [2] 0]∧rs=[([0],zo M),([2],[.p (zF c b j f p ck cx sk sx)]),([3],[.la [0] 1 0 n])]):=by
 refine zn mixed 6 [] Tryz.func188 rfl (by kernel_rfl) rfl (by simp) (by simp) ?_
 simp (maxSteps:=1000000) [go_sem,Tryz.f188,zF]
 exact zi [[0],[2],[3]] (.fn 208 [.lp [3] 0,.lp [2] 0]) ⟨rfl,by simp⟩ (by simp[go_sem,zd,leA,leT]) ⟨rfl,by simp[go_sem]⟩
def uT(k:Int→Int)(x:Int):List Int→List Int
 | []=>[x]
 |y::l=>if k x<k y then x::y::l else y::uT k x l
def QY(k:Int→Int)(l:List Int):List Int:=l.foldl (fun a x=>uT k x a) []
theorem Jn(k:Int→Int)(x:Int):∀l,qm k l→∃a b,l=a++b∧uT k x l=a++x::b∧(∀y∈a,k y≤k x)∧∀y∈b,k x<k y
 | [],_=>⟨[],[],rfl,rfl,by simp,by simp⟩
 |y::l,h=>by
  unfold uT
  split
  ·rename_i hlt
   refine⟨[],y::l,rfl,rfl,by simp,fun z hz=>?_⟩
   rcases List.mem_cons.1 hz with rfl|hz
   ·exact hlt
   ·have:=(List.pairwise_cons.1 h).1 z hz;omega
  ·rename_i hge
   obtain⟨a,b,h1,h2,h3,h4⟩:=Jn k x l (List.pairwise_cons.1 h).2
   refine⟨y::a,b,by rw[h1];rfl,by rw[h2];rfl,fun z hz=>?_,h4⟩
   rcases List.mem_cons.1 hz with rfl|hz
   ·omega
   ·exact h3 z hz
theorem zhu {k:Int→Int} {l m:List Int}(h:QF k l m)(x:Int):QF k (l++[x]) (uT k x m):=by
 obtain⟨a,b,h1,h2,h3,h4⟩:=Jn k x m h.1
 rw[h2]
 exact vD (by rw[←h1];exact h) h3 h4
theorem zdD(k:Int→Int):∀(l l0 m:List Int),QF k l0 m→QF k (l0++l) (l.foldl (fun a x=>uT k x a) m)
 | [],l0,m,h=>by simpa using h
 |x::l,l0,m,h=>by
  have:=zdD k l (l0++[x]) (uT k x m) (zhu h x)
  simpa using this
theorem wL(k:Int→Int)(l:List Int):QF k l (QY k l):=by
 have:=zdD k l [] [] (QF.refl (by simp[qm]))
 simpa[QY]using this
theorem zkf {k:Int→Int} {l m:List Int}(h:QF k l m):m=QY k l:=QF.uniq h (wL k l)
theorem yN(k:Int→Int)(l:List Int):(QY k l).length=l.length:=(wL k l).2.len
theorem X3 {k:Int→Int} {l:List Int} {x:Int}(h:x∈QY k l):x∈l:=(wL k l).2.mem h
theorem zb5 {k:Int→Int} {l:List Int}(h:l.length≤1):QY k l=l:=by
 match l,h with
 | [],_=>rfl
 | [x],_=>rfl
def Q7(k:Int→Int):List Int→List Int→List Int
 |run,[]=>QY k run
 |run,x::l=>if k x=0 then QY k run++x::Q7 k [] l else Q7 k (run++[x]) l
def K6(k:Int→Int)(l:List Int):List Int:=Q7 k [] l
theorem Uh(k:Int→Int):∀(l run:List Int),(Q7 k run l).length=run.length+l.length
 | [],run=>by simp[Q7,yN]
 |x::l,run=>by
  unfold Q7
  split
  ·simp[yN,Uh k l []]
  ·rw[Uh k l (run++[x])];simp;omega
theorem UC {k:Int→Int} {y:Int}:∀(l run:List Int),y∈Q7 k run l→y∈run∨y∈l
 | [],run,h=>.inl (X3 h)
 |x::l,run,h=>by
  unfold Q7 at h
  split at h
  ·rcases List.mem_append.1 h with h|h
   ·exact .inl (X3 h)
   ·rcases List.mem_cons.1 h with rfl|h
    ·exact .inr (by simp)
    ·rcases UC l [] h with h|h
     ·simp at h
     ·exact .inr (by simp[h])
  ·rcases UC l (run++[x]) h with h|h
   ·rcases List.mem_append.1 h with h|h
    ·exact .inl h
    ·rw[List.mem_singleton.1 h];exact .inr (by simp)
   ·exact .inr (by simp[h])
end Go.Proofs.YthbmelihnabkaaaGreat
end
