/- A part of this seat's proofs, by an abstract machine. Conditions: each law's. -/
import Derived.Test.YtfjdbbpimklecaaGreatDoorV14
namespace Go.AM
section
def JZ(o:Oper):Bool:=o.guard.isNone&&match o.op with
 |.extract .. =>true
 |.move _=>true
 |_=>false
def YM(ops:Array Oper)(i:Nat):Bool:=match ops[i]? with
 |some o=>JZ o
 |none=>false
def U4(ops:Array Oper)(e:Edge):Edge:=if !Region.binds .any e&&YM ops e.on then {e with ground:=.phase}else e
def zgs(ops:Array Oper)(o:Oper):Oper:={o with after:=o.after.map (U4 ops)}
def jr(ops:Array Oper):Array Oper:=ops.map (zgs ops)
def Z8(o:Oper):Oper:={o with after:= #[]}
def strip(ops:Array Oper):Array Oper:=ops.map Z8
def flB(ops:Array Oper)(i:Nat):Bool:=match ops[i]? with
 |some oi=>(oi.after.toList.all fun e=>Region.binds .any e ||!YM ops e.on)&&(List.range ops.size).all fun k=>k==i || (Qa ops i).contains k || (match ops[k]? with
   |some ok=>(Qa ops k).contains i || oi.apart ops ok
   |none=>true)
 |none=>false
def Yr(ops:Array Oper):Bool:=J2 (jr ops)&&(ops.toList.all fun o=>!Q3 (zgs ops o))&&(List.range ops.size).all fun j=>match ops[j]? with
 |some oj=>oj.after.toList.all fun e=>Region.binds .any e ||!YM ops e.on || (flB ops e.on&&decide (e.on≠j)&&(Qa ops e.on).all fun x=>(Wh ops j).contains x)
 |none=>true
def UJ [Gi](P:Program)(ops:Array Oper)(S:St)(K:St→Prop):Prop:=jI P (strip ops) (strip ops).toList (jU P (strip ops).toList S) K
theorem XO {o:Oper}(h:Q3 o=false):UZ (Z8 o)=UZ o:=by
 have h2:Q3 (Z8 o)=false:=by
  unfold Q3 Z8
  simp only
  split<;>simp
 unfold UZ
 rw[h,h2]
 rfl
theorem X0 {o:Oper} {l:List Oper}(h:Q3 o=false):hdr (Z8 o) (l.map Z8)=hdr o l:=by
 unfold hdr
 rw[XO h]
 have:kz (Z8 o)=kz o:=rfl
 rw[this]
 cases l<;>rfl
theorem Uw(ops:Array Oper)(S:St)(o:Oper):zY (strip ops) S (Z8 o)=zY ops S o:=by
 unfold zY
 have e:∀j:Nat,((strip ops)[j]?).bind (fun x=>x.dst)=(ops[j]?).bind (fun x=>x.dst):=fun j=>by
  unfold strip
  rw[Array.getElem?_map]
  cases ops[j]?<;>rfl
 have hg:(Z8 o).guard=o.guard:=rfl
 rw[hg]
 cases o.guard with
 |none=>rfl
 |some p=>obtain⟨j,want⟩:=p;simp only[e]
theorem KN [Gi] {P:Program} {ops:Array Oper} {K:St→Prop}:∀(l:List Oper) (S:St),ZW P (strip ops) (l.map Z8) S K=ZW P ops l S K
 | [],S=>rfl
 |o::l,S=>by
  have ih:(fun S'=>ZW P (strip ops) (l.map Z8) S' K)=fun S'=>ZW P ops l S' K:=funext fun S'=>KN l S'
  have e:∀c K,QQ P S (Z8 o) c K=QQ P S o c K:=fun c K=>rfl
  simp only[List.map_cons,ZW,Uw,e,ih]
theorem KK [Gi] {P:Program} {ops:Array Oper} {K:St→Prop}:∀(l:List Oper) (S:St),(∀o∈l,Q3 o=false)→jI P (strip ops) (l.map Z8) S K→jI P ops l S K
 | [],S,_,h=>h
 |o::l,S,hl,h=>by
  simp only[List.map_cons,jI,Uw,X0 (hl o (by simp))]at h⊢
  split at h
  ·rename_i hh
   rw[if_pos hh]
   split at h
   ·rename_i c hc
    obtain⟨x,h1,h2,h3⟩:=h
    exact⟨x,h1,h2,KK l _ (fun x hx=>hl x (by simp[hx])) h3⟩
   ·exact h.elim
  ·rename_i hh
   rw[if_neg hh]
   have:=KN (P:=P) (ops:=ops) (K:=K) (o::l) S
   rw[List.map_cons]at this
   rw[←this];exact h
theorem Ky {P:Program}:∀(l:List Oper) (S:St),(∀o∈l,Q3 o=false)→jU P (l.map Z8) S=jU P l S
 | [],S,_=>rfl
 |o::l,S,hl=>by
  simp only[List.map_cons,jU,X0 (hl o (by simp))]
  have e:U5 P S (Z8 o)=U5 P S o:=rfl
  rw[e,Ky l _ (fun x hx=>hl x (by simp[hx]))]
theorem Vq(ops:Array Oper)(i:Nat):(jr ops)[i]?=(ops[i]?).map (zgs ops):=by unfold jr;rw[Array.getElem?_map]
theorem XU {P:Program} {ops:Array Oper} {Q:Exit→Act→World→Prop} {i:Nat} {K:Act→World→Prop} {a:Act} {w:World}(h:wpOp P (jr ops) Q i K a w):wpOp P ops Q i K a w:=by
 unfold wpOp at h⊢
 rw[Vq]at h
 cases ho:ops[i]? with
 |none=>rw[ho]at h;exact h
 |some o=>
  rw[ho]at h
  have e:∀tm,yielded (jr ops) tm=yielded ops tm:=fun tm=>by
   funext j
   unfold yielded
   rw[Vq]
   cases ops[j]?<;>rfl
  simp only[Option.map_some,e]at h
  exact h
theorem J6 {P:Program} {ops:Array Oper} {o:Oper} {a:Act} {w:World} {K:Act→World→Prop} {Q:Exit→Act→World→Prop} {i:Nat}(hi:ops[i]?=some o)(hf:JZ o=true)(hQ:∀e a w,e≠ .normal→¬Q e a w)(h:wpOp P ops Q i K a w):
  ∃v,Yields P ops o v a∧K (a.put o.dst v) w:=by
 unfold wpOp at h
 rw[hi]at h
 unfold JZ at hf
 simp only[Bool.and_eq_true,Option.isNone_iff_eq_none]at hf
 have hw:Region.wanted o (yielded ops a.tmps)=true:=by unfold Region.wanted;rw[hf.1]
 simp only[hw,if_true]at h
 rcases h with h|⟨_,a',w',h⟩
 ·have hop:=hf.2
  unfold Oper.wp at h
  have key:(∃v,∀w,(execOp a.eval o).run P w=.ok (.value v) w)∨(∃x,∀w,∃w',(execOp a.eval o).run P w=.halt x w'):=by
   obtain⟨dst,op,tt,pos,after,guard⟩:=o
   cases op with
   |extract x i=>
    simp only[execOp]
    unfold Instr.extract
    split
    ·split
     ·exact .inl ⟨_,fun w=>rfl⟩
     ·exact .inr ⟨_,fun w=>⟨w,rfl⟩⟩
    ·exact .inr ⟨_,fun w=>⟨w,rfl⟩⟩
   |move x=>exact .inl ⟨_,fun w=>rfl⟩
   |_=>simp at hop
  rcases key with ⟨v,hv⟩|⟨x,hx⟩
  ·rw[hv w]at h
   exact⟨v,.inl ⟨hw,hv⟩,h⟩
  ·obtain⟨w',hx⟩:=hx w
   rw[hx]at h
   exfalso
   cases x<;>simp only[Oper.upon]at h
   exact hQ _ _ _ (by simp) h
 ·exact absurd h (hQ _ _ _ (by simp))
theorem zc1 {ops:Array Oper} {listed:Array Bool} {j:Nat}(h:j∈Region.ready .any (jr ops) listed):j∈Region.ready .any ops listed:=by
 rw[mem_ready]at h⊢
 obtain⟨h0,o,ho,hall⟩:=h
 rw[Vq,Option.map_eq_some_iff]at ho
 obtain⟨o',ho',rfl⟩:=ho
 refine⟨h0,o',ho',fun e he hb=>?_⟩
 have h1:=hall (U4 ops e) (by show _∈(o'.after.map (U4 ops));exact Array.mem_map.2 ⟨e,he,rfl⟩)
 have e1:U4 ops e=e:=by unfold U4;rw[hb];simp
 rw[e1]at h1
 exact h1 hb
theorem YS {ops:Array Oper} {listed:Array Bool} {j:Nat}(h:j∈Region.ready .any ops listed):j∈Region.ready .any (jr ops) listed∨∃o e,ops[j]?=some o∧e∈o.after∧Region.binds .any e=false∧YM ops e.on=true∧listed.getD e.on false=false:=by
 by_cases hq:j∈Region.ready .any (jr ops) listed
 ·exact .inl hq
 ·refine .inr ?_
  have h':=h
  rw[mem_ready]at h'
  obtain⟨h0,o,ho,hall⟩:=h'
  by_cases hx:∃e∈o.after,Region.binds .any e=false∧YM ops e.on=true∧listed.getD e.on false=false
  ·obtain⟨e,he,h1,h2,h3⟩:=hx
   exact⟨o,e,ho,he,h1,h2,h3⟩
  ·exfalso
   apply hq
   rw[mem_ready]
   refine⟨h0,zgs ops o,by rw[Vq,ho];rfl,fun e he hb=>?_⟩
   obtain⟨e',he',rfl⟩:=Array.mem_map.1 (show e∈o.after.map (U4 ops)from he)
   have hon:(U4 ops e').on=e'.on:=by unfold U4;split<;>rfl
   rw[hon]
   by_cases h1:Region.binds .any e'=true
   ·exact hall e' he' h1
   ·have h1':Region.binds .any e'=false:=by simpa using h1
    by_cases h2:YM ops e'.on=true
    ·cases h3:listed.getD e'.on false with
     |true=>rfl
     |false=>exact absurd ⟨e',he',h1',h2,h3⟩ hx
    ·have e1:U4 ops e'=e':=by unfold U4;rw[h1'];simp[h2]
     rw[e1,h1']at hb;cases hb
theorem zdP {P:Program} {ops:Array Oper} {Q:Exit→Act→World→Prop}(hQ:∀e a w,e≠ .normal→¬Q e a w)(hs:Region.noSelect ops=true)
  (hB:∀j o e,ops[j]?=some o→e∈o.after→Region.binds .any e=false→YM ops e.on=true→flB ops e.on=true∧e.on≠j∧∀x∈Qa ops e.on,x∈Wh ops j):
  ∀(f:Nat) (listed:Array Bool) (a:Act) (w:World),listed.size=ops.size→yH ops listed→wpAny P .any (jr ops) Q f listed a w→wpAny P .any ops Q f listed a w:=by
 -- what is waited for is ready itself
 have rdy:∀listed j,listed.size=ops.size→yH ops listed→j∈Region.ready .any ops listed→j ∉ Region.ready .any (jr ops) listed→∃i oi,ops[i]?=some oi∧JZ oi=true∧flB ops i=true∧i≠j∧i∈Region.ready .any (jr ops) listed∧i∈Region.ready .any ops listed:=by
  intro listed j hsz hcl hj hn
  rcases YS hj with h|⟨o,e,ho,he,h1,h2,h3⟩
  ·exact absurd h hn
  ·obtain⟨b1,b2,b3⟩:=hB j o e ho he h1 h2
   have hfl:=h2
   unfold YM at hfl
   split at hfl
   ·rename_i oi hoi
    have hlt:e.on<ops.size:=(Array.getElem?_eq_some_iff.1 hoi).1
    have hd:∀x∈Qa ops j,listed.getD x false=true:=fun x hx=>by
     obtain⟨o',ho',e',he',hb',rfl⟩:=jT hx
     obtain⟨_,o2,ho2,hall⟩:=mem_ready.1 hj
     have:o2=o':=Option.some.inj (ho2.symm.trans ho')
     subst this
     exact hall e' he' hb'
    have hr:e.on∈Region.ready .any ops listed:=mem_ready.2 ⟨getD_in (by rw[hsz];exact hlt) h3,oi,hoi,fun e' he' hb'=>by
     refine wJ hcl hd e'.on (b3 _ ?_)
     unfold Qa
     rw[hoi]
     exact List.mem_map.2 ⟨e',List.mem_filter.2 ⟨by simpa using he',hb'⟩,rfl⟩⟩
    refine⟨e.on,oi,hoi,hfl,b1,b2,?_,hr⟩
    rcases YS hr with h|⟨o',e',ho',he',g1,g2,_⟩
    ·exact h
    ·exfalso
     have:o'=oi:=Option.some.inj (ho'.symm.trans hoi)
     subst this
     unfold flB at b1
     rw[hoi]at b1
     simp only[Bool.and_eq_true]at b1
     have:=List.all_eq_true.1 b1.1 e' (by simpa using he')
     rw[g1,g2]at this
     simp at this
   ·cases hfl
 intro f
 induction f with
 |zero=>
  intro listed a w hsz hcl H
  refine⟨?_,H.2⟩
  cases hr:Region.ready .any ops listed with
  |nil=>rfl
  |cons j l=>
   exfalso
   have hj:j∈Region.ready .any ops listed:=by rw[hr];simp
   obtain⟨i,_,_,_,_,_,hi,_⟩:=rdy listed j hsz hcl hj (by rw[H.1];simp)
   rw[H.1]at hi;cases hi
 |succ f ih=>
  intro listed a w hsz hcl H
  refine⟨fun h0=>H.1 ?_,fun j hj=>?_⟩
  ·cases hr:Region.ready .any (jr ops) listed with
   |nil=>rfl
   |cons j l=>
    have:=zc1 (j:=j) (ops:=ops) (listed:=listed) (by rw[hr];simp)
    rw[h0]at this;cases this
  ·by_cases hq:j∈Region.ready .any (jr ops) listed
   ·exact wpOp_mono (fun a' w' h'=>ih _ a' w' (by simpa using hsz) (hcl.set hj) h') (XU (H.2 j hq))
   ·obtain⟨i,oi,hoi,hfl,hflB,hij,hi1,hi2⟩:=rdy listed j hsz hcl hj hq
    have h1:=wpOp_mono (fun a' w' h'=>ih _ a' w' (by simpa using hsz) (hcl.set hi2) h') (XU (H.2 i hi1))
    obtain⟨v,hy,h2⟩:=J6 hoi hfl hQ h1
    refine(wpAny_first hoi (Region.noSelect_spec hs) (fun c a w h=>absurd h (hQ _ _ _ (by simp))) f listed a w (fun k ok hok hki hun hno=>?_) hi2 hy h2).2 j hj
    unfold flB at hflB
    rw[hoi]at hflB
    simp only[Bool.and_eq_true]at hflB
    have hk:=List.all_eq_true.1 hflB.2 k (List.mem_range.2 (Array.getElem?_eq_some_iff.1 hok).1)
    rw[hok]at hk
    simp only[Bool.or_eq_true,beq_iff_eq,List.contains_iff_mem]at hk
    rcases hk with (h|h)|h|h
    ·exact absurd h hki
    ·exfalso
     obtain⟨_,o2,ho2,hall⟩:=mem_ready.1 hi2
     obtain⟨o',ho',e',he',hb',he2⟩:=jT h
     have:o2=o':=Option.some.inj (ho2.symm.trans ho')
     subst this
     have hl:=hall e' he' hb'
     rw[he2]at hl
     have hlt:k<listed.size:=by rw[hsz];exact(Array.getElem?_eq_some_iff.1 hok).1
     simp only[Array.getD_eq_getD_getElem?,Array.getElem?_eq_getElem hlt,Option.getD_some]at hl hun
     rw[hl]at hun;cases hun
    ·exfalso
     obtain⟨o',ho',e',he',hb',he2⟩:=jT h
     have:o'=ok:=Option.some.inj (ho'.symm.trans hok)
     subst this
     exact hno e' he' hb' he2
    ·exact h
theorem X8 [Gi] {P:Program} {ops:Array Oper}(hd:J2 ops=true) {Q:Exit→Act→World→Prop} {E:Ent} {K:St→Prop}
  (hQ:∀S' g' a' w',K S'→SR E S' g' a' w'→Q .normal a' w') {S:St} {g:Gh} {a:Act} {w:World} (h:jI P ops ops.toList (jU P ops.toList S) K) (hS:SR E S g a w):wpAny P .any ops Q ops.size (Array.replicate ops.size false) a {w with drawn:=w.drawn+1}:=by
 have hw1:SR E S g a {w with drawn:=w.drawn+1}:=hS.drew
 obtain⟨g1,hw2,_,hnew⟩:=SR.jU (P:=P) ops.toList hw1
 have hn:qF ops.toList≤ops.size:=by have:=um ops.toList;simpa using this
 obtain⟨v,run,hK⟩:=U0 (P:=P) (ops:=ops) (K:=K) (S0:=jU P ops.toList S) ops.toList 0 (qF ops.toList) _ (fun _=>.zK) (fun j=>by simp) (Nat.zero_le _) (fun j hj o r ho=>VZ (l:=ops.toList) (by simpa using hj) ho) hn (fun o r ho=>Uf (l:=ops.toList) (by simpa using ho)) rfl
  ⟨fun i hi=>absurd hi (Nat.not_lt_zero _)⟩ h
 have hempty:(List.range (qF ops.toList)).filter (fun i=>(Array.replicate ops.size false).getD i false)=[]:=List.filter_eq_nil_iff.2 fun i _=>by rw[getD_replicate_false];simp
 have hfull:(List.range (qF ops.toList)).filter (fun i=> !(Array.replicate ops.size false).getD i false)=List.range (qF ops.toList):=List.filter_eq_self.2 fun i _=>by rw[getD_replicate_false];rfl
 have:=YX (P:=P) hQ hd run (by simpa using hK) (qF ops.toList) (Array.replicate ops.size false) g1 a {w with drawn:=w.drawn+1} (fun i o d cs hi _ ho hz b=>by
   rcases hnew i o d cs hi (by simpa using ho) hz with h1|h1
   ·obtain⟨o',ho',c,x,_,hv,_⟩:=run.step i hi
    have:o'=o:=Option.some.inj (ho'.symm.trans ho)
    subst this
    unfold wH at hv
    rw[hz]at hv
    have h2:=hv.2.2.1
    rw[Qr,UK,h1]at h2
    cases h2
   ·exact h1 b)
  ⟨by simp,fun j oj _ hl=>(by rw[getD_replicate_false]at hl;cases hl),fun t _ ht=>getD_in (by simpa using ht) (getD_replicate_false _ _)⟩ (by rw[hfull];simp) (by rw[hempty];exact hw2)
 rwa[show qF ops.toList+(ops.size-qF ops.toList)=ops.size from by omega]at this
theorem Kg [Gi] {P:Program} {id:Nat} {ops:Array Oper}(hm:P.follows .mixedOrders=true)(hB:Yr ops=true) {Q:Exit→Act→World→Prop} {E:Ent} {K:St→Prop}
  (hQ:∀S' g' a' w',K S'→SR E S' g' a' w'→Q .normal a' w') {S:St} {g:Gh} {a:Act} {w:World} (h:UJ P ops S K) (hS:SR E S g a w):(Code.region id ops true).wp P Q a w:=by
 unfold Yr at hB
 simp only[Bool.and_eq_true]at hB
 obtain⟨⟨hd,hl⟩,hb⟩:=hB
 have hl':∀o∈(jr ops).toList,Q3 o=false:=fun o ho=>by
  unfold jr at ho
  rw[Array.toList_map]at ho
  obtain⟨o',ho',rfl⟩:=List.mem_map.1 ho
  have:=List.all_eq_true.1 hl o' ho'
  simpa using this
 have es:strip (jr ops)=strip ops:=by
  unfold strip jr
  rw[Array.map_map];rfl
 have et:(jr ops).toList.map Z8=(strip ops).toList:=by
  rw[←es];unfold strip;rw[Array.toList_map]
 have h':jI P (jr ops) (jr ops).toList (jU P (jr ops).toList S) K:=by
  unfold UJ at h
  rw[←et,Ky _ _ hl',←es]at h
  exact KK _ _ hl' h
 have hsel:Region.noSelect ops=true:=by
  have h1:Region.noSelect (jr ops)=true:=by
   unfold J2 at hd
   simp only[Bool.and_eq_true]at hd
   exact hd.1.1.1
  unfold Region.noSelect jr at h1
  rw[Array.all_map]at h1
  exact h1
 have key:wpAny P .any ops (fun e a w=>e=.normal∧Q .normal a w) ops.size (Array.replicate ops.size false) a {w with drawn:=w.drawn+1}:=by
  have h1:=X8 (P:=P) (Q:=fun e a w=>e=.normal∧Q .normal a w) hd (fun S' g' a' w' k s=>⟨rfl,hQ S' g' a' w' k s⟩) h' hS
  have hz:(jr ops).size=ops.size:=by unfold jr;simp
  rw[hz]at h1
  refine zdP (fun e a w he hq=>he hq.1) hsel (fun j o e ho he h1 h2=>?_) _ _ _ _ (by simp) (fun j oj _ hl=>(by rw[getD_replicate_false]at hl;cases hl)) h1
  have:=List.all_eq_true.1 hb j (List.mem_range.2 (Array.getElem?_eq_some_iff.1 ho).1)
  rw[ho]at this
  have:=List.all_eq_true.1 this e (by simpa using he)
  rw[h1,h2]at this
  simp only[Bool.not_true,Bool.or_false,Bool.false_or,Bool.and_eq_true,decide_eq_true_eq,List.all_eq_true,List.contains_iff_mem]at this
  exact⟨this.1.1,this.1.2,this.2⟩
 refine wp_mono (wp_region_any hm key) ?_
 rintro e a' w' ⟨rfl,hq⟩
 exact hq
def leA(x y:AV):Prop:=
 x=y∨(∃t z es,x=.os t z es∧y=.p (.sl z es))∨(Zv x=true∧((∃z,y=.p (.sl z []))∨(∃t z,y=.os t z [])∨∃t T,y=.bb t T []))∨y=.zK
theorem ub {x y:AV}(h:leA x y):LeA x y:=by
 rcases h with rfl|⟨t,z,es,rfl,rfl⟩|⟨hn,h⟩|rfl
 ·exact LeA.refl _
 ·exact LeA.dem _ _ _
 ·unfold Zv at hn
  split at hn
  ·rcases h with ⟨z,rfl⟩|⟨t,z,rfl⟩|⟨t,T,rfl⟩
   ·exact LeA.nil z
   ·exact LeA.uD t z
   ·exact fun _ _ _ h=>by simp only[za,zi]at h⊢;exact .inl ⟨trivial,h⟩
  ·cases hn
 ·exact LeA.zK _
def leP:List AV→List AV→Prop
 | [],[]=>True
 |x::xs,y::ys=>leA x y∧leP xs ys
 |_,_=>False
theorem Xb {g:Gh} {w:World}:∀{xs ys:List AV} {vs:List Value},leP xs ys→zm g w xs vs→zm g w ys vs
 | [],[],vs,_,r=>r
 |x::xs,y::ys,vs,h,r=>by
  simp only[zm]at r⊢
  obtain⟨v,vs',e,h1,h2⟩:=r
  exact⟨v,vs',e,ub h.1 _ _ _ h1,Xb h.2 h2⟩
 | [],_::_,_,h,_=>h.elim
 |_::_,[],_,h,_=>h.elim
def leT(x y:AV):Prop:=
 match x with
 |.tup xs=>match y with
  |.tup ys=>leP xs ys
  |_=>False
 |x=>leA x y
theorem zeC {x y:AV}(h:leT x y):LeA x y:=by
 unfold leT at h
 split at h
 ·split at h
  ·intro g w v r
   simp only[za]at r⊢
   obtain⟨vs,e,r⟩:=r
   exact⟨vs,e,Xb h r⟩
  ·exact h.elim
 ·exact ub h
def leL:List AV→List AV→Prop
 |_,[]=>True
 | [],_::_=>False
 |x::xs,y::ys=>leA x y∧leL xs ys
theorem zap:∀{xs ys:List AV},leL xs ys→ys.length≤xs.length∧∀(j:Nat) (y:AV),ys[j]?=some y→∃x,xs[j]?=some x∧LeA x y
 |xs,[],_=>by simp
 | [],y::ys,h=>h.elim
 |x::xs,y::ys,h=>by
  obtain⟨h1,h2⟩:=h
  obtain⟨h3,h4⟩:=zap h2
  refine⟨by simpa using h3,fun j z hj=>?_⟩
  cases j with
  |zero=>simp at hj;subst hj;exact⟨x,rfl,ub h1⟩
  |succ j=>simpa using h4 j z (by simpa using hj)
def leV(S:St):List (Nat×AV)→Prop
 | []=>True
 |(t,y)::l=>leA (S.get t) y∧leV S l
theorem X3 {S:St}:∀{l:List (Nat×AV)},leV S l→∀t y,look l t=some y→LeA (S.get t) y
 | [],_,t,y,h=>by simp[look]at h
 |(k,z)::l,h,t,y,hl=>by
  simp only[look]at hl
  split at hl
  ·rename_i e;subst e;injection hl with hl;subst hl;exact ub h.1
  ·exact X3 h.2 t y hl
def leR(rs:List (Tok×List AV)):List (Tok×List AV)→Prop
 | []=>True
 |(t,ys)::l=>(match zw rs t with|some xs=>leL xs ys|none=>True)∧leR rs l
def has(l:List (Tok×List AV))(t:Tok):Bool:=l.any fun x=>x.1==t
theorem zc4 {l:List (Tok×List AV)} {t:Tok}(h:has l t=true):∃ys,zw l t=some ys:=by
 induction l with
 |nil=>simp[has]at h
 |cons x l ih=>
  obtain⟨k,y⟩:=x
  simp only[zw]
  split
  ·exact⟨_,rfl⟩
  ·rename_i hk
   refine ih ?_
   simp only[has,List.any_cons,Bool.or_eq_true,beq_iff_eq]at h⊢
   exact h.resolve_left hk
theorem XM {rs:List (Tok×List AV)}:∀{l:List (Tok×List AV)},leR rs l→∀t ys xs,zw l t=some ys→zw rs t=some xs→leL xs ys
 | [],_,t,ys,xs,h,_=>by simp[zw]at h
 |(k,z)::l,h,t,ys,xs,hl,hx=>by
  simp only[zw]at hl
  split at hl
  ·rename_i e;subst e;injection hl with hl;subst hl
   have:=h.1
   rw[hx]at this;exact this
  ·exact XM h.2 t ys xs hl hx
def LeS(S S1:St):Prop:=
 (S1.n=S.n∧S1.pin=S.pin∧S1.ts=[]∧S.pin.all (has S1.rs)=true)∧
  leV (S.fil (has S1.rs) ftt) S1.vs∧leR (S.fil (has S1.rs) ftt).rs S1.rs
theorem SR.le [Gi] {E:Ent} {S S1:St} {g:Gh} {a:Act} {w:World}(h:SR E S g a w)(hl:LeS S S1):∃g',SR E S1 g' a w:=by
 obtain⟨⟨h1,h2,h3,h4⟩,h5,h6⟩:=hl
 have k:=h.filter (has S1.rs) ftt (fun t ht=>List.all_eq_true.1 h4 t ht)
 refine⟨_,by rw[h1];exact k.size,k.defers,fun t=>?_,fun b t hk=>?_,k.ur,k.ut,k.own,k.frame,k.ext,k.out,k.mono,k.frb,fun b t hk ht=>k.pins b t hk (by show t∈S.pin;rw[←h2];exact ht)⟩
 ·unfold St.get
  split
  ·cases hx:look S1.vs t with
   |none=>simp only[qV,za]
   |some y=>exact X3 h5 t y hx _ _ _ (k.slots t)
  ·rw[h3];simp only[look,qV,za]
 ·obtain⟨xs,hl,h0,arr,T,hb,hle,hc⟩:=k.roots b t hk
  obtain⟨ys,hy⟩:=zc4 (Gh.zS.1 hk).2
  obtain⟨hlen,hget⟩:=zap (XM h6 t ys xs hy hl)
  refine⟨ys,hy,h0,arr,T,hb,by omega,fun j y hj=>?_⟩
  obtain⟨x,hx,hxy⟩:=hget j y hj
  obtain⟨v,hv,e,r⟩:=hc j x hx
  exact⟨v,hv,e,hxy _ _ _ r⟩
def zaO(S:St)(mm:List (Tok×Tok)):St:=
 {S with vs:=S.vs.map fun x=>(x.1,x.2.ren (inM mm)),ts:=S.ts.map fun x=>(x.1,x.2.ren (inM mm)),rs:=Zk S mm mm}
theorem St.zg0(S:St)(mm:List (Tok×Tok))(t:Nat):(zaO S mm).get t=(S.get t).ren (inM mm):=by
 have hk:(zaO S mm).kept t=S.kept t:=rfl
 unfold St.get
 rw[hk]
 have h:∀l:List (Nat×AV),qV (look (l.map fun x=>(x.1,x.2.ren (inM mm))) t)=(qV (look l t)).ren (inM mm):=fun l=>by
  rw[vM (AV.ren (inM mm))]
  cases look l t<;>simp[qV,AV.ren,AV.upd,u9,jt]
 split
 ·exact h S.vs
 ·exact h S.ts
theorem SR.zaO [Gi] {E:Ent} {S:St} {g:Gh} {a:Act} {w:World}(h:SR E S g a w) {mm:List (Tok×Tok)}(ok:okM 1000000 mm=true)(hp:S.pin.all (fun t=>inM mm t==some t)=true):SR E (AM.zaO S mm) (g.Zr mm) a w:=by
 have G:=h.Zr ok
 refine⟨h.size,h.defers,fun t=>?_,G.roots,G.ur,G.ut,fun b hb=>h.own b (fun e=>hb ?_),h.frame,h.ext,h.out,h.mono,h.frb,fun b t hk ht=>⟨?_,(h.pins b t hk ht).2⟩⟩
 ·rw[St.zg0];exact za.ren (Ren.Zr g mm) _ _ (h.slots t)
 ·show(g.K b).ren _=.prot
  rw[e];rfl
 ·have:=List.all_eq_true.1 hp t ht
  simp at this
  exact Kd.ZA.2 ⟨t,(h.pins b t hk ht).1,this⟩
def LeR(S S1:St):Prop:=LeS S S1∨∃mm,okM 1000000 mm=true∧S.pin.all (fun t=>inM mm t==some t)=true∧LeS (zaO S mm) S1
theorem SR.leR [Gi] {E:Ent} {S S1:St} {g:Gh} {a:Act} {w:World}(h:SR E S g a w)(hl:LeR S S1):∃g',SR E S1 g' a w:=by
 rcases hl with hl|⟨mm,h1,h2,hl⟩
 ·exact h.le hl
 ·exact(h.zaO h1 h2).le hl
def zch [Gi](P:Program)(ops:Array Oper)(K:St→Prop)(S:St):Prop:=
 ∃(t:OT) (K':St→Prop),(Region.noSelect ops&&okT ops ops.size (Array.replicate ops.size false) t)=true∧jo P ops K' t S∧∀S',K' S'→K S'∨∃S1,LeR S' S1∧K S1
theorem zar [Gi] {P:Program} {ops:Array Oper} {K K2:St→Prop} {S:St}(hk:∀S,K S→K2 S)(h:zch P ops K S):zch P ops K2 S:=by
 obtain⟨t,K',h1,h2,h3⟩:=h
 refine⟨t,K',h1,h2,fun S' k=>?_⟩
 rcases h3 S' k with h|⟨S1,hl,h⟩
 ·exact .inl (hk _ h)
 ·exact .inr ⟨S1,hl,hk _ h⟩
def lfA [Gi](P:Program)(ops:Array Oper)(b:Bool)(S:St)(K:St→Prop):Prop:=if b=true then UJ P ops S K else vH P ops S K
def wpA [Gi](P:Program)(D:List Nat):Code→(Exit→St→Prop)→St→Prop
 |.skip,Q,S=>Q .normal S
 |.region id ops draw,Q,S=>if(draw&&D.contains (id+200000))=true then zch P ops (Q .normal) {S with ts:=[]}else if(draw&&D.contains (id+100000))=true then lfA P ops (D.contains id) {S with ts:=[]} (Q .normal)else if(draw&&D.contains id)=true then jI P ops ops.toList (jU P ops.toList {S with ts:=[]}) (Q .normal)else ZW P ops ops.toList {S with ts:=[]} (Q .normal)
 |.seq x y,Q,S=>wpA P D x (fun e S'=>match e with|.normal=>wpA P D y Q S'|e=>Q e S') S
 |.cond c x y,Q,S=>
  match S.ev c with
  |.p (.bool b)=>(b=true→wpA P D x Q S)∧(b=false→wpA P D y Q S)
  |_=>False
 |.block id c,Q,S=>wpA P D c (fun e S'=>match e with|.exit i=>if i=id then Q .normal S' else Q (.exit i) S'|e=>Q e S') S
 |.loop c,Q,S=>∃(ι:Type) (st:ι→St) (m:ι→Nat),(∃i,LeS S (st i))∧∀i,wpA P D c (fun e S'=>match e with|.normal=>∃j,LeR S' (st j)∧m j<m i|e=>Q e S') (st i)
 |.exit id,Q,S=>Q (.exit id) S
 |.ret,Q,S=>Q .ret S
 |_,_,_=>False
def q7(D:List Nat):Code→Bool
 |.region id ops draw=>!draw || D.contains (id+200000) || bif D.contains (id+100000)then(bif D.contains id then Yr ops else V3 ops)else bif D.contains id then J2 ops else UH ops
 |.seq x y=>q7 D x&&q7 D y
 |.cond _ x y=>q7 D x&&q7 D y
 |.block _ c=>q7 D c
 |.loop c=>q7 D c
 |_=>true
def post [Gi](E:Ent)(Q:Exit→St→Prop):Exit→Act→World→Prop:=fun e a w=>∃S g,Q e S∧SR E S g a w
theorem SR.clean [Gi] {E:Ent} {S:St} {g:Gh} {a:Act} {w:World}(h:SR E S g a w):SR E {S with ts:=[]} g a w:=by
 refine⟨h.size,h.defers,fun t=>?_,h.roots,h.ur,h.ut,h.own,h.frame,h.ext,h.out,h.mono,h.frb,h.pins⟩
 have hs:=h.slots t
 have hk:({S with ts:=[]}:St).kept t=S.kept t:=rfl
 unfold St.get at hs⊢
 rw[hk]
 split
 ·rename_i hc;rw[if_pos hc]at hs;exact hs
 ·simp only[look,qV,za]
theorem VN {P:Program} {c:Code} {Q:Exit→Act→World→Prop} {ι:Type}(I:ι→Act→World→Prop)(m:ι→Nat) {a:Act} {w:World} {i₀:ι}(h0:I i₀ a w)
  (round:∀i a w,I i a w→c.wp P (Exit.then (fun a' w'=>∃j,I j a' w'∧m j<m i) Q) a w):(Code.loop c).wp P Q a w:=by
 intro b k cs
 have key:∀n i a w,m i=n→I i a w→
   ∃e a' w',Q e a' w'∧Arrives P (lone (b.at a (.code c::.inLoop c::k)) cs w) b k cs e a' w':=by
  intro n
  induction n using Nat.strongRecOn with
  |_ n ih=>
   intro i a w hn hI
   obtain⟨e,a₁,w₁,hq,harr⟩:=round i a w hI b (.inLoop c::k) cs
   cases e with
   |normal=>
    obtain⟨j,hI₁,hlt⟩:=hq
    obtain⟨e₂,a₂,w₂,hq₂,harr₂⟩:=ih (m j) (hn▸hlt) j a₁ w₁ rfl hI₁
    exact⟨e₂,a₂,w₂,hq₂,.of_steps (Steps.trans harr (.one step_inLoop)) harr₂⟩
   |exit id=>exact⟨_,a₁,w₁,hq,.pass (x:=.inLoop c) rfl (fun _ _=>.inl (by simp)) harr⟩
   |goto l=>exact⟨_,a₁,w₁,hq,.pass (x:=.inLoop c) rfl (fun _ _=>.inl (by simp)) harr⟩
   |ret=>exact⟨_,a₁,w₁,hq,.pass (x:=.inLoop c) rfl (fun _ _=>.inl (by simp)) harr⟩
   |panic ch=>exact⟨_,a₁,w₁,hq,.pass (x:=.inLoop c) rfl (fun _ _=>.inl (by simp)) harr⟩
   |outgrown=>exact⟨_,a₁,w₁,hq,.pass (x:=.inLoop c) rfl (fun _ _=>.inl (by simp)) harr⟩
 obtain⟨e,a',w',hq,harr⟩:=key _ i₀ a w rfl h0
 exact⟨e,a',w',hq,.of_steps (.one step_loop) harr⟩
theorem ZN [Gi] {P:Program} {D:List Nat}(hm:P.follows .mixedOrders=true) {E:Ent}:∀(c:Code) {Q:Exit→St→Prop} {S:St} {g:Gh} {a:Act} {w:World},q7 D c=true→wpA P D c Q S→SR E S g a w→c.wp P (post E Q) a w
 |.skip,Q,S,g,a,w,_,h,hS=>wp_skip ⟨S,g,h,hS⟩
 |.region id ops draw,Q,S,g,a,w,hc,h,hS=>by
  simp only[q7]at hc
  simp only[wpA]at h
  by_cases hT:(draw&&D.contains (id+200000))=true
  ·rw[if_pos hT]at h
   simp only[Bool.and_eq_true]at hT
   obtain⟨rfl,_⟩:=hT
   obtain⟨t,K',h1,h2,h3⟩:=h
   refine Kn hm (K:=K') (fun S' g' a' w' hk hs=>?_) ⟨t,h1,h2⟩ hS.clean
   rcases h3 S' hk with h|⟨S1,hl,h⟩
   ·exact⟨S',g',h,hs⟩
   ·obtain⟨g2,hs2⟩:=hs.leR hl
    exact⟨S1,g2,h,hs2⟩
  rw[if_neg hT]at h
  have hc:(!draw || bif D.contains (id+100000)then(bif D.contains id then Yr ops else V3 ops)else bif D.contains id then J2 ops else UH ops)=true:=by
   cases draw with
   |false=>rfl
   |true=>
    have:D.contains (id+200000)=false:=by simpa using hT
    rw[this]at hc
    simpa using hc
  by_cases hL:(draw&&D.contains (id+100000))=true
  ·rw[if_pos hL]at h
   simp only[Bool.and_eq_true]at hL
   obtain⟨rfl,hL⟩:=hL
   rw[hL]at hc
   unfold lfA at h
   by_cases hD:D.contains id=true
   ·rw[if_pos hD]at h
    rw[hD]at hc
    exact Kg hm (by simpa using hc) (K:=Q .normal) (fun S' g' a' w' hk hs=>⟨S',g',hk,hs⟩) h hS.clean
   ·rw[if_neg hD]at h
    have hD':D.contains id=false:=by simpa using hD
    rw[hD']at hc
    exact Kb hm (by simpa using hc) (K:=Q .normal) (fun S' g' a' w' hk hs=>⟨S',g',hk,hs⟩) h hS.clean
  rw[if_neg hL]at h
  have hc:(!draw || bif D.contains id then J2 ops else UH ops)=true:=by
   cases draw with
   |false=>rfl
   |true=>
    have:D.contains (id+100000)=false:=by simpa using hL
    rw[this]at hc
    exact hc
  by_cases hD:(draw&&D.contains id)=true
  ·rw[if_pos hD]at h
   simp only[Bool.and_eq_true]at hD
   obtain⟨rfl,hD⟩:=hD
   rw[hD]at hc
   exact U2 hm (by simpa using hc) (K:=Q .normal) (fun S' g' a' w' hk hs=>⟨S',g',hk,hs⟩) h hS.clean
  ·rw[if_neg hD]at h
   refine J9 hm ?_ (K:=Q .normal) (fun S' g' a' w' hk hs=>⟨S',g',hk,hs⟩) h hS.clean
   cases draw with
   |false=>rfl
   |true=>
    simp only[Bool.true_and]at hD
    have:D.contains id=false:=by simpa using hD
    rw[this]at hc
    simpa using hc
 |.seq x y,Q,S,g,a,w,hc,h,hS=>by
  simp only[q7,Bool.and_eq_true]at hc
  simp only[wpA]at h
  refine wp_seq (wp_mono (ZN hm x hc.1 h hS) ?_)
  rintro e a' w' ⟨S',g',hq,hs⟩
  cases e with
  |normal=>exact ZN hm y hc.2 hq hs
  |_=>exact⟨S',g',hq,hs⟩
 |.cond c x y,Q,S,g,a,w,hc,h,hS=>by
  simp only[q7,Bool.and_eq_true]at hc
  simp only[wpA]at h
  have hr:=hS.ev c
  split at h
  ·rename_i b hb
   rw[hb]at hr
   simp only[za,zi]at hr
   cases b with
   |true=>exact wp_cond_true hr (ZN hm x hc.1 (h.1 rfl) hS)
   |false=>exact wp_cond_false hr (ZN hm y hc.2 (h.2 rfl) hS)
  ·exact h.elim
 |.block id c,Q,S,g,a,w,hc,h,hS=>by
  simp only[q7]at hc
  simp only[wpA]at h
  refine wp_block (wp_mono (ZN hm c hc h hS) ?_)
  rintro e a' w' ⟨S',g',hq,hs⟩
  cases e with
  |exit i=>
   simp only[Exit.inBlock]
   simp only[]at hq
   split
   ·rename_i hi;rw[if_pos hi]at hq;exact⟨S',g',hq,hs⟩
   ·rename_i hi;rw[if_neg hi]at hq;exact⟨S',g',hq,hs⟩
  |_=>exact⟨S',g',hq,hs⟩
 |.loop c,Q,S,g,a,w,hc,h,hS=>by
  simp only[q7]at hc
  simp only[wpA]at h
  obtain⟨ι,st,m,⟨i,hi⟩,hround⟩:=h
  obtain⟨g0,h0⟩:=hS.le hi
  refine VN (fun i a w=>∃g,SR E (st i) g a w) m (i₀:=i) ⟨g0,h0⟩ ?_
  rintro i a w ⟨g,hs⟩
  refine wp_mono (ZN hm c hc (hround i) hs) ?_
  rintro e a' w' ⟨S',g',hq,hs'⟩
  cases e with
  |normal=>
   obtain⟨j,hj,hlt⟩:=hq
   obtain⟨g'',h''⟩:=hs'.leR hj
   exact⟨j,⟨g'',h''⟩,hlt⟩
  |_=>exact⟨S',g',hq,hs'⟩
 |.exit id,Q,S,g,a,w,_,h,hS=>wp_exit ⟨S,g,h,hS⟩
 |.ret,Q,S,g,a,w,_,h,hS=>wp_ret ⟨S,g,h,hS⟩
 |.rangeFunc ..,Q,S,g,a,w,_,h,hS=>by simp only[wpA]at h
 |.scope _,Q,S,g,a,w,_,h,hS=>by simp only[wpA]at h
 |.label _,Q,S,g,a,w,_,h,hS=>by simp only[wpA]at h
 |.goto _,Q,S,g,a,w,_,h,hS=>by simp only[wpA]at h
 |.refuse _,Q,S,g,a,w,_,h,hS=>by simp only[wpA]at h
def wm:Nat→List AV→List (Nat×AV)
 |_,[]=>[]
 |k,x::l=>(k,x)::wm (k+1) l
theorem Wy:∀(l:List AV) (k t:Nat),look (wm k l) t=if k≤t then l[t-k]? else none
 | [],k,t=>by simp[wm,look]
 |x::l,k,t=>by
  simp only[wm,look]
  split
  ·rename_i h;subst h;simp
  ·rename_i h
   rw[Wy l (k+1) t]
   by_cases h1:k≤t
   ·rw[if_pos h1,if_pos (by omega)]
    have:t-k=(t- (k+1))+1:=by omega
    rw[this,List.getElem?_cons_succ]
   ·rw[if_neg h1,if_neg (by omega)]
def Zh:List ResultVar→List (Nat×Option TypeId)
 | []=>[]
 |.tmp t::l=>(t,none)::Zh l
 |.cell a t::l=>(a,some t)::Zh l
def xQ:List ResultVar→Option (List (Nat×Option TypeId))
 | []=>some []
 |.tmp t::l=>(xQ l).map ((t,none)::·)
 |.cell a t::l=>(xQ l).map ((a,some t)::·)
theorem JQ:∀{l:List ResultVar} {ts:List (Nat×Option TypeId)},xQ l=some ts→Zh l=ts
 | [],ts,h=>by simp only[xQ,Option.some.injEq]at h;subst h;rfl
 |.tmp t::l,ts,h=>by
  simp only[xQ,Option.map_eq_some_iff]at h
  obtain⟨us,h1,rfl⟩:=h
  simp[Zh,JQ h1]
 |.cell a t::l,ts,h=>by
  simp only[xQ,Option.map_eq_some_iff]at h
  obtain⟨us,h1,rfl⟩:=h
  simp[Zh,JQ h1]
def Y6(P:Program)(S:St):Nat×Option TypeId→PR
 |(t,none)=>(True,S.get t)
 |(a,some T)=>jx P S T (S.get a)
def uE(P:Program)(S:St):List (Nat×Option TypeId)→Prop
 | []=>True
 |r::l=>(Y6 P S r).1∧uE P S l
def zg(P:Program)(S:St):List (Nat×Option TypeId)→PR
 | [r]=>Y6 P S r
 |rs=>(uE P S rs,.tup (rs.map fun r=>(Y6 P S r).2))
def wD(kr:List Tok)(rs:List (Tok×List AV)):List (Tok×List AV):=rs.filter fun x=>kr.contains x.1
theorem W6 {kr:List Tok} {t:Tok}(h:kr.contains t=true):∀{rs:List (Tok×List AV)} {cs:List AV},zw rs t=some cs→zw (wD kr rs) t=some cs
 | [],cs,hl=>by simp[zw]at hl
 |(k,x)::rs,cs,hl=>by
  simp only[zw]at hl
  unfold wD
  simp only[List.filter_cons]
  split at hl
  ·rename_i e;subst e
   rw[if_pos (by simpa using h)]
   simp only[zw,if_true];exact hl
  ·rename_i e
   have ih:=W6 h hl
   split
   ·simp only[zw,if_neg e];exact ih
   ·exact ih
def wo(P:Program)(pin:List Tok)(ts:List (Nat×Option TypeId))(R:AV→List (Tok×List AV)→Prop)(S:St):Prop:=
 ∃(kr:List Tok) (x:AV),(S.pin=pin∧S.pin.all (fun t=>kr.contains t)=true)∧((zg P S ts).1∧leT ((zg P S ts).2.upd (AM.fil (fun t=>kr.contains t) ftt)) x)∧R x (wD kr (S.fil (fun t=>kr.contains t) ftt).rs)
def y9(P:Program)(pin:List Tok)(ts:List (Nat×Option TypeId))(R:AV→List (Tok×List AV)→Prop):Exit→St→Prop
 |.normal,S=>wo P pin ts R S
 |.ret,S=>wo P pin ts R S
 |_,_=>False
theorem zbi {P:Program} {S:St} {t:TypeId} {x:AV}(h:(jx P S t x).1):uU x=true:=by
 unfold jx at h
 split at h
 ·split at h
  ·rfl
  ·rfl
  ·exact h.elim
 ·exact h.elim
theorem VP [Gi] {P:Program} {E:Ent} {S:St} {g:Gh} {a:Act} {w:World}(hS:SR E S g a w)(F:ResultVar→Sem Value)(h1:∀t,F (.tmp t)=pure (a.tmps.getD t undef))(h2:∀b t,F (.cell b t)=do loadVar t (←asAddr (a.tmps.getD b undef))):
  ∀{l:List ResultVar},uE P S (Zh l)→∃vs:List Value,(l.mapM F:Sem (List Value)).run P w=.ok vs w∧zm g w ((Zh l).map fun r=>(Y6 P S r).2) vs
 | [],_=>⟨[],rfl,by simp[Zh,zm]⟩
 |.tmp t::l,h=>by
  obtain⟨vs,e,r⟩:=VP hS F h1 h2 (l:=l) h.2
  refine⟨a.tmps.getD t undef::vs,?_,?_⟩
  ·simp only[List.mapM_cons,Sem.run_bind,h1,Sem.run_pure,Result.andThen_ok,e]
  ·simp only[Zh,List.map_cons,zm,Y6]
   exact⟨_,_,rfl,hS.slots t,r⟩
 |.cell b t::l,h=>by
  obtain⟨vs,e,r⟩:=VP hS F h1 h2 (l:=l) h.2
  have hh:(jx P S t (S.get b)).1:=h.1
  obtain⟨u,hu,hr⟩:=kl hS hh (hS.slots b)
  obtain⟨p,hp⟩:=Vw (zbi hh) (hS.slots b)
  have hF:(F (.cell b t)).run P w=.ok u w:=by
   rw[h2,hp]
   rw[hp]at hu
   exact hu
  refine⟨u::vs,?_,?_⟩
  ·simp only[List.mapM_cons,Sem.run_bind,hF,Sem.run_pure,Result.andThen_ok,e]
  ·simp only[Zh,List.map_cons,zm,Y6]
   exact⟨_,_,rfl,hr,r⟩
theorem zda {P:Program} {S:St}:∀{ts:List (Nat×Option TypeId)},(zg P S ts).1→uE P S ts
 | [],h=>h
 | [_],h=>⟨h,trivial⟩
 |_::_::_,h=>h
theorem Yq [Gi] {P:Program} {fn:Func} {ts:List (Nat×Option TypeId)} {w w':World} {g g':Gh} {hG:ve g w} {pin:List Tok} {R:AV→List (Tok×List AV)→Prop} {S':St} {a':Act}
  (hres:xQ fn.results.toList=some ts) (hs:SR ⟨w,g,hG⟩ S' g' a' w'):wo P pin ts R S'→
  ∃v,(results fn a'.tmps).run P w'=.ok v w'∧∃v' x rs' g'',Ending.returned v=.returned v'∧R x rs'∧za g'' w' x v'∧GS g'' w' rs'∧Aft g w g'' w' pin:=by
 rintro⟨kr,x,⟨hpin,hkr⟩,⟨hres1,hle⟩,hR⟩
 have k:=hs.filter (fun t=>kr.contains t) ftt (fun t ht=>List.all_eq_true.1 hkr t ht)
 have kp:xc g' w' (g'.fil (fun t=>kr.contains t) ftt) w' (fun t=>kr.contains t) ftt:=⟨Ext.refl _ _,fun b t ht hk=>⟨Gh.zS.2 ⟨hk,ht⟩,fun _ hn=>hn⟩,fun b t ht hk=>⟨Gh.qG.2 ⟨hk,ht⟩,rfl,rfl⟩⟩
 have hres:=JQ hres
 subst hres
 obtain⟨vs,hvs,hrs⟩:=VP (P:=P) hs (fun|.tmp t=>pure (a'.tmps.getD t undef)|.cell b t=>do loadVar t (←asAddr (a'.tmps.getD b undef))) (fun _=>rfl) (fun _ _=>rfl) (zda hres1)
 have hrun:∀v,v=(if h:vs.toArray.size=1 then vs.toArray[0]else .tuple vs.toArray)→(results fn a'.tmps).run P w'=.ok v w':=by
  intro v hv
  unfold results
  rw[Sem.run_bind,Array.mapM_eq_mapM_toList,Sem.run_map]
  have hvs':=hvs
  rw[hv]
  erw [hvs']
  rfl
 have hrep:∃v,(results fn a'.tmps).run P w'=.ok v w'∧za (g'.fil (fun t=>kr.contains t) ftt) w' ((zg P S' (Zh fn.results.toList)).2.upd (AM.fil (fun t=>kr.contains t) ftt)) v:=by
  have many:(∀r,Zh fn.results.toList≠ [r])→∃v,(results fn a'.tmps).run P w'=.ok v w'∧za g' w' (zg P S' (Zh fn.results.toList)).2 v:=by
   intro hne
   refine⟨.tuple vs.toArray,hrun _ ?_,?_⟩
   ·rw[dif_neg]
    have hl:vs.length=(Zh fn.results.toList).length:=by
     have:∀(xs:List AV) (vs:List Value),zm g' w' xs vs→vs.length=xs.length:=by
      intro xs
      induction xs with
      |nil=>intro vs h;simp only[zm]at h;subst h;rfl
      |cons x xs ih=>intro vs h;simp only[zm]at h;obtain⟨_,vs',rfl,_,h⟩:=h;simp[ih vs' h]
     simpa using this _ _ hrs
    intro h1
    have h1':vs.length=1:=by simpa using h1
    rw[hl]at h1'
    obtain⟨r,hr⟩:=List.length_eq_one_iff.1 h1'
    exact hne r hr
   ·have e:zg P S' (Zh fn.results.toList)=(uE P S' (Zh fn.results.toList),.tup ((Zh fn.results.toList).map fun r=>(Y6 P S' r).2)):=by
     unfold zg
     split
     ·rename_i r hr;exact absurd hr (hne r)
     ·rfl
    rw[e]
    simp only[za]
    exact⟨_,rfl,by simpa using hrs⟩
  by_cases h1:∃r,Zh fn.results.toList=[r]
  ·obtain⟨r,hr⟩:=h1
   rw[hr]at hrs
   simp only[List.map_cons,List.map_nil,zm]at hrs
   obtain⟨v,_,rfl,hv,rfl⟩:=hrs
   refine⟨v,hrun v (by simp),?_⟩
   rw[hr]
   exact za.upd kp _ _ hv
  ·obtain⟨v,e,hv⟩:=many (fun r hr=>h1 ⟨r,hr⟩)
   exact⟨v,e,za.upd kp _ _ hv⟩
 obtain⟨v,hv1,hv2⟩:=hrep
 refine⟨v,hv1,v,x,_,g'.fil (fun t=>kr.contains t) ftt,rfl,hR,zeC hle _ _ _ hv2,⟨fun b t hk=>?_,k.ur,k.ut,fun b hb=>(k.own b hb).1,k.frb,k.gl⟩,⟨fun b hb hk=>?_,k.ext,k.out,k.mono,fun b t hk ht=>?_⟩⟩
 ·obtain⟨cs,hl,hrest⟩:=k.roots b t hk
  exact⟨cs,W6 (Gh.zS.1 hk).2 hl,hrest⟩
 ·have hmay:¬(Ent.mk w g hG).may b:=by
   unfold Ent.may
   rintro(h'|h')
   ·have:w.heap.size≤b:=h';omega
   ·exact h' hk
  refine⟨(k.frame b hmay).1,(k.frame b hmay).2,?_⟩
  rcases Classical.em ((g'.fil (fun t=>kr.contains t) ftt).K b=.prot)with e|e
  ·exact e
  ·exact absurd (k.own b e).2 hmay
 ·have hp:t∈S'.pin:=by rw[hpin];exact ht
  exact k.pins b t hk hp
theorem zds [Gi] {P:Program}(D:List Nat)(hm:P.follows .mixedOrders=true) {f:FuncId} {fn:Func} {c:Code} {ts:List (Nat×Option TypeId)}(nv:Nat)(ex:List Nat)(hf:P.funcs[f]?=some fn)(hb:fn.body=some c)(hok:q7 D c=true)(rm:List Nat)(bt:List TypeId)
  (hres:xQ fn.results.toList=some ts) {pin:List Tok} {args:List AV} {rs:List (Tok×List AV)} {R:AV→List (Tok×List AV)→Prop} (hnv:args.length≤nv) (hn:args.length≤fn.ntmps)
  (h:wpA P D c (y9 P pin ts R) {n:=fn.ntmps,nv:=nv,vs:=wm 0 args,ts:=[],rs:=rs,pin:=pin,ex:=ex,rm:=rm,bt:=bt}):CR P f pin args rs R:=by
 intro w g vs hargs hG
 have hlen:vs.length=args.length:=by
  have h0:args.length≤nv:=hnv
  clear h0 h hnv hn
  induction args generalizing vs with
  |nil=>simp only[zm]at hargs;subst hargs;rfl
  |cons x xs ih=>simp only[zm]at hargs;obtain⟨v,vs',rfl,_,h2⟩:=hargs;simp[ih vs' h2]
 let E:Ent:=⟨w,g,hG.gl⟩
 have hS:SR E {n:=fn.ntmps,nv:=nv,vs:=wm 0 args,ts:=[],rs:=rs,pin:=pin,ex:=ex,rm:=rm,bt:=bt} g {tmps:=vs.toArray++Array.replicate (fn.ntmps-vs.toArray.size) undef,defers:=[]} w:=by
  refine⟨by simp;omega,rfl,fun t=>?_,hG.roots,hG.ur,hG.ut,fun b hb=>⟨hG.own b hb,.inr hb⟩,fun b _=>⟨rfl,rfl⟩,Ext.refl _ _,⟨rfl,rfl,rfl⟩,Nat.le_refl _,hG.frb,fun b t hk _=>⟨hk,fun _ hn=>hn⟩⟩
  unfold St.get
  split
  ·simp only[Wy,Nat.zero_le,if_true,Nat.sub_zero]
   cases hx:args[t]? with
   |none=>simp only[qV,za]
   |some x=>
    simp only[qV]
    obtain⟨v,hv,hr⟩:=hargs.get hx
    have hvl:=(List.getElem?_eq_some_iff.1 hv).1
    have:(vs.toArray++Array.replicate (fn.ntmps-vs.toArray.size) undef).getD t undef=v:=by
     simp[Array.getD_eq_getD_getElem?,Array.getElem?_append,hvl]
     have:=(List.getElem?_eq_some_iff.1 hv).2
     exact this
    rw[this];exact hr
  ·simp only[look,qV,za]
 refine calls_of_wp hf hb (wp_mono (ZN hm c hok h hS) ?_)
 rintro e a' w' ⟨S',g',hq,hs⟩
 have fin:wo P pin ts R S'→a'.defers=[]∧∃v,(results fn a'.tmps).run P w'=.ok v w'∧∃v' x rs' g'',Ending.returned v=.returned v'∧R x rs'∧za g'' w' x v'∧GS g'' w' rs'∧Aft g w g'' w' pin:=fun h=>⟨hs.defers,Yq hres hs h⟩
 cases e with
 |normal=>exact fin hq
 |ret=>exact fin hq
 |_=>exact hq.elim
theorem QX [Gi] {P:Program}(D:List Nat)(hm:P.follows .mixedOrders=true) {f:FuncId} {fn:Func} {c:Code} {ts:List (Nat×Option TypeId)}(nv:Nat)(ex:List Nat)(hf:P.funcs[f]?=some fn)(hb:fn.body=some c)(hok:q7 D c=true)(rm:List Nat)
  (hres:xQ fn.results.toList=some ts) {pin:List Tok} {args:List AV} {rs:List (Tok×List AV)} {R:AV→List (Tok×List AV)→Prop} (hnv:args.length≤nv) (hn:args.length≤fn.ntmps)
  (h:wpA P D c (y9 P pin ts R) {n:=fn.ntmps,nv:=nv,vs:=wm 0 args,ts:=[],rs:=rs,pin:=pin,ex:=ex,rm:=rm}):CR P f pin args rs R:=
 zds D hm nv ex hf hb hok rm [] hres hnv hn h
theorem zN [Gi] {P:Program}(D:List Nat)(hm:P.follows .mixedOrders=true) {f:FuncId} {fn:Func} {c:Code} {ts:List (Nat×Option TypeId)}(nv:Nat)(ex:List Nat)(hf:P.funcs[f]?=some fn)(hb:fn.body=some c)(hok:q7 D c=true)
  (hres:xQ fn.results.toList=some ts) {pin:List Tok} {args:List AV} {rs:List (Tok×List AV)} {R:AV→List (Tok×List AV)→Prop} (hnv:args.length≤nv) (hn:args.length≤fn.ntmps)
  (h:wpA P D c (y9 P pin ts R) {n:=fn.ntmps,nv:=nv,vs:=wm 0 args,ts:=[],rs:=rs,pin:=pin,ex:=ex}):CR P f pin args rs R:=
 QX D hm nv ex hf hb hok [] hres hnv hn h
theorem zH [Gi] {P:Program}(hm:P.follows .mixedOrders=true) {f:FuncId} {fn:Func} {c:Code} {ts:List (Nat×Option TypeId)}(nv:Nat)(ex:List Nat)(hf:P.funcs[f]?=some fn)(hb:fn.body=some c)(hok:q7 [] c=true)
  (hres:xQ fn.results.toList=some ts) {pin:List Tok} {args:List AV} {rs:List (Tok×List AV)} {R:AV→List (Tok×List AV)→Prop} (hnv:args.length≤nv) (hn:args.length≤fn.ntmps)
  (h:wpA P [] c (y9 P pin ts R) {n:=fn.ntmps,nv:=nv,vs:=wm 0 args,ts:=[],rs:=rs,pin:=pin,ex:=ex}):CR P f pin args rs R:=
 zN [] hm nv ex hf hb hok hres hnv hn h
end
end Go.AM
