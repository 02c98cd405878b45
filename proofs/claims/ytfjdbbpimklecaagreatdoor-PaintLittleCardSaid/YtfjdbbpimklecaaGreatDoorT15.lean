/- A part of this seat's proofs, by an abstract machine. Conditions: each law's. -/
import Derived.Test.YtfjdbbpimklecaaGreatDoorT14
namespace Go.AM
section
def zaS(o:Oper):Bool:=o.guard.isNone&&match o.op with
 |.extract .. =>true
 |.move _=>true
 |_=>false
def zdB(ops:Array Oper)(i:Nat):Bool:=match ops[i]? with
 |some o=>zaS o
 |none=>false
def Y7(ops:Array Oper)(e:Edge):Edge:=if !Region.binds .any e&&zdB ops e.on then {e with ground:=.phase}else e
def zmK(ops:Array Oper)(o:Oper):Oper:={o with after:=o.after.map (Y7 ops)}
def kV(ops:Array Oper):Array Oper:=ops.map (zmK ops)
def Q0(o:Oper):Oper:={o with after:= #[]}
def strip(ops:Array Oper):Array Oper:=ops.map Q0
def flB(ops:Array Oper)(i:Nat):Bool:=match ops[i]? with
 |some oi=>(oi.after.toList.all fun e=>Region.binds .any e ||!zdB ops e.on)&&(List.range ops.size).all fun k=>k==i || (Q2 ops i).contains k || (match ops[k]? with
   |some ok=>(Q2 ops k).contains i || oi.apart ops ok
   |none=>true)
 |none=>false
def za0(ops:Array Oper):Bool:=zb1 (kV ops)&&(ops.toList.all fun o=>!kE (zmK ops o))&&(List.range ops.size).all fun j=>match ops[j]? with
 |some oj=>oj.after.toList.all fun e=>Region.binds .any e ||!zdB ops e.on || (flB ops e.on&&decide (e.on≠j)&&(Q2 ops e.on).all fun x=>(VX ops j).contains x)
 |none=>true
def YX [Gi](P:Program)(ops:Array Oper)(S:St)(K:St→Prop):Prop:=ye P (strip ops) (strip ops).toList (yN P (strip ops).toList S) K
theorem zcK {o:Oper}(h:kE o=false):Jz (Q0 o)=Jz o:=by
 have h2:kE (Q0 o)=false:=by
  unfold kE Q0
  simp only
  split<;>simp
 unfold Jz
 rw[h,h2]
 rfl
theorem zdC {o:Oper} {l:List Oper}(h:kE o=false):hdr (Q0 o) (l.map Q0)=hdr o l:=by
 unfold hdr
 rw[zcK h]
 have:xf (Q0 o)=xf o:=rfl
 rw[this]
 cases l<;>rfl
theorem Yu(ops:Array Oper)(S:St)(o:Oper):qj (strip ops) S (Q0 o)=qj ops S o:=by
 unfold qj
 have e:∀j:Nat,((strip ops)[j]?).bind (fun x=>x.dst)=(ops[j]?).bind (fun x=>x.dst):=fun j=>by
  unfold strip
  rw[Array.getElem?_map]
  cases ops[j]?<;>rfl
 have hg:(Q0 o).guard=o.guard:=rfl
 rw[hg]
 cases o.guard with
 |none=>rfl
 |some p=>obtain⟨j,want⟩:=p;simp only[e]
theorem zaA [Gi] {P:Program} {ops:Array Oper} {K:St→Prop}:∀(l:List Oper) (S:St),Zu P (strip ops) (l.map Q0) S K=Zu P ops l S K
 | [],S=>rfl
 |o::l,S=>by
  have ih:(fun S'=>Zu P (strip ops) (l.map Q0) S' K)=fun S'=>Zu P ops l S' K:=funext fun S'=>zaA l S'
  have e:∀c K,jP P S (Q0 o) c K=jP P S o c K:=fun c K=>rfl
  simp only[List.map_cons,Zu,Yu,e,ih]
theorem XQ [Gi] {P:Program} {ops:Array Oper} {K:St→Prop}:∀(l:List Oper) (S:St),(∀o∈l,kE o=false)→ye P (strip ops) (l.map Q0) S K→ye P ops l S K
 | [],S,_,h=>h
 |o::l,S,hl,h=>by
  simp only[List.map_cons,ye,Yu,zdC (hl o (by simp))]at h⊢
  split at h
  ·rename_i hh
   rw[if_pos hh]
   split at h
   ·rename_i c hc
    obtain⟨x,h1,h2,h3⟩:=h
    exact⟨x,h1,h2,XQ l _ (fun x hx=>hl x (by simp[hx])) h3⟩
   ·exact h.elim
  ·rename_i hh
   rw[if_neg hh]
   have:=zaA (P:=P) (ops:=ops) (K:=K) (o::l) S
   rw[List.map_cons]at this
   rw[←this];exact h
theorem XT {P:Program}:∀(l:List Oper) (S:St),(∀o∈l,kE o=false)→yN P (l.map Q0) S=yN P l S
 | [],S,_=>rfl
 |o::l,S,hl=>by
  simp only[List.map_cons,yN,zdC (hl o (by simp))]
  have e:Xq P S (Q0 o)=Xq P S o:=rfl
  rw[e,XT l _ (fun x hx=>hl x (by simp[hx]))]
theorem KU(ops:Array Oper)(i:Nat):(kV ops)[i]?=(ops[i]?).map (zmK ops):=by unfold kV;rw[Array.getElem?_map]
theorem zdA {P:Program} {ops:Array Oper} {Q:Exit→Act→World→Prop} {i:Nat} {K:Act→World→Prop} {a:Act} {w:World}(h:wpOp P (kV ops) Q i K a w):wpOp P ops Q i K a w:=by
 unfold wpOp at h⊢
 rw[KU]at h
 cases ho:ops[i]? with
 |none=>rw[ho]at h;exact h
 |some o=>
  rw[ho]at h
  have e:∀tm,yielded (kV ops) tm=yielded ops tm:=fun tm=>by
   funext j
   unfold yielded
   rw[KU]
   cases ops[j]?<;>rfl
  simp only[Option.map_some,e]at h
  exact h
theorem zbN {P:Program} {ops:Array Oper} {o:Oper} {a:Act} {w:World} {K:Act→World→Prop} {Q:Exit→Act→World→Prop} {i:Nat}(hi:ops[i]?=some o)(hf:zaS o=true)(hQ:∀e a w,e≠ .normal→¬Q e a w)(h:wpOp P ops Q i K a w):
  ∃v,Yields P ops o v a∧K (a.put o.dst v) w:=by
 unfold wpOp at h
 rw[hi]at h
 unfold zaS at hf
 simp only[Bool.and_eq_true,Option.isNone_iff_eq_none]at hf
 have hw:Region.wanted o (yielded ops a.tmps)=true:=by unfold Region.wanted;rw[hf.1]
 simp only[hw,if_true]at h
 rcases h with h|⟨_,a',w',h⟩
 ·have hop:=hf.2
  unfold Oper.wp at h
  have key:(∃v,∀w,(execOp a.eval o).run P w=.ok (.value v) w)∨(∃x,∀w,∃w',(execOp a.eval o).run P w=.halt x w'):=by
   obtain⟨dst,op,tt,pos,after,guard⟩:=o
   cases op with
   |extract x i=>
    simp only[execOp]
    unfold Instr.extract
    split
    ·split
     ·exact .inl ⟨_,fun w=>rfl⟩
     ·exact .inr ⟨_,fun w=>⟨w,rfl⟩⟩
    ·exact .inr ⟨_,fun w=>⟨w,rfl⟩⟩
   |move x=>exact .inl ⟨_,fun w=>rfl⟩
   |_=>simp at hop
  rcases key with ⟨v,hv⟩|⟨x,hx⟩
  ·rw[hv w]at h
   exact⟨v,.inl ⟨hw,hv⟩,h⟩
  ·obtain⟨w',hx⟩:=hx w
   rw[hx]at h
   exfalso
   cases x<;>simp only[Oper.upon]at h
   exact hQ _ _ _ (by simp) h
 ·exact absurd h (hQ _ _ _ (by simp))
theorem zhW {ops:Array Oper} {listed:Array Bool} {j:Nat}(h:j∈Region.ready .any (kV ops) listed):j∈Region.ready .any ops listed:=by
 rw[mem_ready]at h⊢
 obtain⟨h0,o,ho,hall⟩:=h
 rw[KU,Option.map_eq_some_iff]at ho
 obtain⟨o',ho',rfl⟩:=ho
 refine⟨h0,o',ho',fun e he hb=>?_⟩
 have h1:=hall (Y7 ops e) (by show _∈(o'.after.map (Y7 ops));exact Array.mem_map.2 ⟨e,he,rfl⟩)
 have e1:Y7 ops e=e:=by unfold Y7;rw[hb];simp
 rw[e1]at h1
 exact h1 hb
theorem zeh {ops:Array Oper} {listed:Array Bool} {j:Nat}(h:j∈Region.ready .any ops listed):j∈Region.ready .any (kV ops) listed∨∃o e,ops[j]?=some o∧e∈o.after∧Region.binds .any e=false∧zdB ops e.on=true∧listed.getD e.on false=false:=by
 by_cases hq:j∈Region.ready .any (kV ops) listed
 ·exact .inl hq
 ·refine .inr ?_
  have h':=h
  rw[mem_ready]at h'
  obtain⟨h0,o,ho,hall⟩:=h'
  by_cases hx:∃e∈o.after,Region.binds .any e=false∧zdB ops e.on=true∧listed.getD e.on false=false
  ·obtain⟨e,he,h1,h2,h3⟩:=hx
   exact⟨o,e,ho,he,h1,h2,h3⟩
  ·exfalso
   apply hq
   rw[mem_ready]
   refine⟨h0,zmK ops o,by rw[KU,ho];rfl,fun e he hb=>?_⟩
   obtain⟨e',he',rfl⟩:=Array.mem_map.1 (show e∈o.after.map (Y7 ops)from he)
   have hon:(Y7 ops e').on=e'.on:=by unfold Y7;split<;>rfl
   rw[hon]
   by_cases h1:Region.binds .any e'=true
   ·exact hall e' he' h1
   ·have h1':Region.binds .any e'=false:=by simpa using h1
    by_cases h2:zdB ops e'.on=true
    ·cases h3:listed.getD e'.on false with
     |true=>rfl
     |false=>exact absurd ⟨e',he',h1',h2,h3⟩ hx
    ·have e1:Y7 ops e'=e':=by unfold Y7;rw[h1'];simp[h2]
     rw[e1,h1']at hb;cases hb
theorem zhI {P:Program} {ops:Array Oper} {Q:Exit→Act→World→Prop}(hQ:∀e a w,e≠ .normal→¬Q e a w)(hs:Region.noSelect ops=true)
  (hB:∀j o e,ops[j]?=some o→e∈o.after→Region.binds .any e=false→zdB ops e.on=true→flB ops e.on=true∧e.on≠j∧∀x∈Q2 ops e.on,x∈VX ops j):
  ∀(f:Nat) (listed:Array Bool) (a:Act) (w:World),listed.size=ops.size→wm ops listed→wpAny P .any (kV ops) Q f listed a w→wpAny P .any ops Q f listed a w:=by
 -- what is waited for is ready itself
 have rdy:∀listed j,listed.size=ops.size→wm ops listed→j∈Region.ready .any ops listed→j ∉ Region.ready .any (kV ops) listed→∃i oi,ops[i]?=some oi∧zaS oi=true∧flB ops i=true∧i≠j∧i∈Region.ready .any (kV ops) listed∧i∈Region.ready .any ops listed:=by
  intro listed j hsz hcl hj hn
  rcases zeh hj with h|⟨o,e,ho,he,h1,h2,h3⟩
  ·exact absurd h hn
  ·obtain⟨b1,b2,b3⟩:=hB j o e ho he h1 h2
   have hfl:=h2
   unfold zdB at hfl
   split at hfl
   ·rename_i oi hoi
    have hlt:e.on<ops.size:=(Array.getElem?_eq_some_iff.1 hoi).1
    have hd:∀x∈Q2 ops j,listed.getD x false=true:=fun x hx=>by
     obtain⟨o',ho',e',he',hb',rfl⟩:=yM hx
     obtain⟨_,o2,ho2,hall⟩:=mem_ready.1 hj
     have:o2=o':=Option.some.inj (ho2.symm.trans ho')
     subst this
     exact hall e' he' hb'
    have hr:e.on∈Region.ready .any ops listed:=mem_ready.2 ⟨getD_in (by rw[hsz];exact hlt) h3,oi,hoi,fun e' he' hb'=>by
     refine Wg hcl hd e'.on (b3 _ ?_)
     unfold Q2
     rw[hoi]
     exact List.mem_map.2 ⟨e',List.mem_filter.2 ⟨by simpa using he',hb'⟩,rfl⟩⟩
    refine⟨e.on,oi,hoi,hfl,b1,b2,?_,hr⟩
    rcases zeh hr with h|⟨o',e',ho',he',g1,g2,_⟩
    ·exact h
    ·exfalso
     have:o'=oi:=Option.some.inj (ho'.symm.trans hoi)
     subst this
     unfold flB at b1
     rw[hoi]at b1
     simp only[Bool.and_eq_true]at b1
     have:=List.all_eq_true.1 b1.1 e' (by simpa using he')
     rw[g1,g2]at this
     simp at this
   ·cases hfl
 intro f
 induction f with
 |zero=>
  intro listed a w hsz hcl H
  refine⟨?_,H.2⟩
  cases hr:Region.ready .any ops listed with
  |nil=>rfl
  |cons j l=>
   exfalso
   have hj:j∈Region.ready .any ops listed:=by rw[hr];simp
   obtain⟨i,_,_,_,_,_,hi,_⟩:=rdy listed j hsz hcl hj (by rw[H.1];simp)
   rw[H.1]at hi;cases hi
 |succ f ih=>
  intro listed a w hsz hcl H
  refine⟨fun h0=>H.1 ?_,fun j hj=>?_⟩
  ·cases hr:Region.ready .any (kV ops) listed with
   |nil=>rfl
   |cons j l=>
    have:=zhW (j:=j) (ops:=ops) (listed:=listed) (by rw[hr];simp)
    rw[h0]at this;cases this
  ·by_cases hq:j∈Region.ready .any (kV ops) listed
   ·exact wpOp_mono (fun a' w' h'=>ih _ a' w' (by simpa using hsz) (hcl.set hj) h') (zdA (H.2 j hq))
   ·obtain⟨i,oi,hoi,hfl,hflB,hij,hi1,hi2⟩:=rdy listed j hsz hcl hj hq
    have h1:=wpOp_mono (fun a' w' h'=>ih _ a' w' (by simpa using hsz) (hcl.set hi2) h') (zdA (H.2 i hi1))
    obtain⟨v,hy,h2⟩:=zbN hoi hfl hQ h1
    refine(wpAny_first hoi (Region.noSelect_spec hs) (fun c a w h=>absurd h (hQ _ _ _ (by simp))) f listed a w (fun k ok hok hki hun hno=>?_) hi2 hy h2).2 j hj
    unfold flB at hflB
    rw[hoi]at hflB
    simp only[Bool.and_eq_true]at hflB
    have hk:=List.all_eq_true.1 hflB.2 k (List.mem_range.2 (Array.getElem?_eq_some_iff.1 hok).1)
    rw[hok]at hk
    simp only[Bool.or_eq_true,beq_iff_eq,List.contains_iff_mem]at hk
    rcases hk with (h|h)|h|h
    ·exact absurd h hki
    ·exfalso
     obtain⟨_,o2,ho2,hall⟩:=mem_ready.1 hi2
     obtain⟨o',ho',e',he',hb',he2⟩:=yM h
     have:o2=o':=Option.some.inj (ho2.symm.trans ho')
     subst this
     have hl:=hall e' he' hb'
     rw[he2]at hl
     have hlt:k<listed.size:=by rw[hsz];exact(Array.getElem?_eq_some_iff.1 hok).1
     simp only[Array.getD_eq_getD_getElem?,Array.getElem?_eq_getElem hlt,Option.getD_some]at hl hun
     rw[hl]at hun;cases hun
    ·exfalso
     obtain⟨o',ho',e',he',hb',he2⟩:=yM h
     have:o'=ok:=Option.some.inj (ho'.symm.trans hok)
     subst this
     exact hno e' he' hb' he2
    ·exact h
theorem zd2 [Gi] {P:Program} {ops:Array Oper}(hd:zb1 ops=true) {Q:Exit→Act→World→Prop} {E:Ent} {K:St→Prop}
  (hQ:∀S' g' a' w',K S'→SR E S' g' a' w'→Q .normal a' w') {S:St} {g:Gh} {a:Act} {w:World} (h:ye P ops ops.toList (yN P ops.toList S) K) (hS:SR E S g a w):wpAny P .any ops Q ops.size (Array.replicate ops.size false) a {w with drawn:=w.drawn+1}:=by
 have hw1:SR E S g a {w with drawn:=w.drawn+1}:=hS.drew
 obtain⟨g1,hw2,_,hnew⟩:=SR.yN (P:=P) ops.toList hw1
 have hn:Zc ops.toList≤ops.size:=by have:=Va ops.toList;simpa using this
 obtain⟨v,run,hK⟩:=J9 (P:=P) (ops:=ops) (K:=K) (S0:=yN P ops.toList S) ops.toList 0 (Zc ops.toList) _ (fun _=>.zY) (fun j=>by simp) (Nat.zero_le _) (fun j hj o r ho=>Ya (l:=ops.toList) (by simpa using hj) ho) hn (fun o r ho=>Jq (l:=ops.toList) (by simpa using ho)) rfl
  ⟨fun i hi=>absurd hi (Nat.not_lt_zero _)⟩ h
 have hempty:(List.range (Zc ops.toList)).filter (fun i=>(Array.replicate ops.size false).getD i false)=[]:=List.filter_eq_nil_iff.2 fun i _=>by rw[getD_replicate_false];simp
 have hfull:(List.range (Zc ops.toList)).filter (fun i=> !(Array.replicate ops.size false).getD i false)=List.range (Zc ops.toList):=List.filter_eq_self.2 fun i _=>by rw[getD_replicate_false];rfl
 have:=zcY (P:=P) hQ hd run (by simpa using hK) (Zc ops.toList) (Array.replicate ops.size false) g1 a {w with drawn:=w.drawn+1} (fun i o d cs hi _ ho hz b=>by
   rcases hnew i o d cs hi (by simpa using ho) hz with h1|h1
   ·obtain⟨o',ho',c,x,_,hv,_⟩:=run.step i hi
    have:o'=o:=Option.some.inj (ho'.symm.trans ho)
    subst this
    unfold Wi at hv
    rw[hz]at hv
    have h2:=hv.2.2.1
    rw[jl,Jr,h1]at h2
    cases h2
   ·exact h1 b)
  ⟨by simp,fun j oj _ hl=>(by rw[getD_replicate_false]at hl;cases hl),fun t _ ht=>getD_in (by simpa using ht) (getD_replicate_false _ _)⟩ (by rw[hfull];simp) (by rw[hempty];exact hw2)
 rwa[show Zc ops.toList+(ops.size-Zc ops.toList)=ops.size from by omega]at this
theorem Xh [Gi] {P:Program} {id:Nat} {ops:Array Oper}(hm:P.follows .mixedOrders=true)(hB:za0 ops=true) {Q:Exit→Act→World→Prop} {E:Ent} {K:St→Prop}
  (hQ:∀S' g' a' w',K S'→SR E S' g' a' w'→Q .normal a' w') {S:St} {g:Gh} {a:Act} {w:World} (h:YX P ops S K) (hS:SR E S g a w):(Code.region id ops true).wp P Q a w:=by
 unfold za0 at hB
 simp only[Bool.and_eq_true]at hB
 obtain⟨⟨hd,hl⟩,hb⟩:=hB
 have hl':∀o∈(kV ops).toList,kE o=false:=fun o ho=>by
  unfold kV at ho
  rw[Array.toList_map]at ho
  obtain⟨o',ho',rfl⟩:=List.mem_map.1 ho
  have:=List.all_eq_true.1 hl o' ho'
  simpa using this
 have es:strip (kV ops)=strip ops:=by
  unfold strip kV
  rw[Array.map_map];rfl
 have et:(kV ops).toList.map Q0=(strip ops).toList:=by
  rw[←es];unfold strip;rw[Array.toList_map]
 have h':ye P (kV ops) (kV ops).toList (yN P (kV ops).toList S) K:=by
  unfold YX at h
  rw[←et,XT _ _ hl',←es]at h
  exact XQ _ _ hl' h
 have hsel:Region.noSelect ops=true:=by
  have h1:Region.noSelect (kV ops)=true:=by
   unfold zb1 at hd
   simp only[Bool.and_eq_true]at hd
   exact hd.1.1.1
  unfold Region.noSelect kV at h1
  rw[Array.all_map]at h1
  exact h1
 have key:wpAny P .any ops (fun e a w=>e=.normal∧Q .normal a w) ops.size (Array.replicate ops.size false) a {w with drawn:=w.drawn+1}:=by
  have h1:=zd2 (P:=P) (Q:=fun e a w=>e=.normal∧Q .normal a w) hd (fun S' g' a' w' k s=>⟨rfl,hQ S' g' a' w' k s⟩) h' hS
  have hz:(kV ops).size=ops.size:=by unfold kV;simp
  rw[hz]at h1
  refine zhI (fun e a w he hq=>he hq.1) hsel (fun j o e ho he h1 h2=>?_) _ _ _ _ (by simp) (fun j oj _ hl=>(by rw[getD_replicate_false]at hl;cases hl)) h1
  have:=List.all_eq_true.1 hb j (List.mem_range.2 (Array.getElem?_eq_some_iff.1 ho).1)
  rw[ho]at this
  have:=List.all_eq_true.1 this e (by simpa using he)
  rw[h1,h2]at this
  simp only[Bool.not_true,Bool.or_false,Bool.false_or,Bool.and_eq_true,decide_eq_true_eq,List.all_eq_true,List.contains_iff_mem]at this
  exact⟨this.1.1,this.1.2,this.2⟩
 refine wp_mono (wp_region_any hm key) ?_
 rintro e a' w' ⟨rfl,hq⟩
 exact hq
def leA(x y:AV):Prop:=
 x=y∨(∃t z es,x=.os t z es∧y=.p (.sl z es))∨(ZW x=true∧((∃z,y=.p (.sl z []))∨(∃t z,y=.os t z [])∨∃t T,y=.bb t T []))∨y=.zY
theorem Vq {x y:AV}(h:leA x y):LeA x y:=by
 rcases h with rfl|⟨t,z,es,rfl,rfl⟩|⟨hn,h⟩|rfl
 ·exact LeA.refl _
 ·exact LeA.dem _ _ _
 ·unfold ZW at hn
  split at hn
  ·rcases h with ⟨z,rfl⟩|⟨t,z,rfl⟩|⟨t,T,rfl⟩
   ·exact LeA.nil z
   ·exact LeA.V2 t z
   ·exact fun _ _ _ h=>by simp only[zb,zl]at h⊢;exact .inl ⟨trivial,h⟩
  ·cases hn
 ·exact LeA.zY _
def leP:List AV→List AV→Prop
 | [],[]=>True
 |x::xs,y::ys=>leA x y∧leP xs ys
 |_,_=>False
theorem zco {g:Gh} {w:World}:∀{xs ys:List AV} {vs:List Value},leP xs ys→zo g w xs vs→zo g w ys vs
 | [],[],vs,_,r=>r
 |x::xs,y::ys,vs,h,r=>by
  simp only[zo]at r⊢
  obtain⟨v,vs',e,h1,h2⟩:=r
  exact⟨v,vs',e,Vq h.1 _ _ _ h1,zco h.2 h2⟩
 | [],_::_,_,h,_=>h.elim
 |_::_,[],_,h,_=>h.elim
def leT(x y:AV):Prop:=
 match x with
 |.tup xs=>match y with
  |.tup ys=>leP xs ys
  |_=>False
 |x=>leA x y
theorem zkI {x y:AV}(h:leT x y):LeA x y:=by
 unfold leT at h
 split at h
 ·split at h
  ·intro g w v r
   simp only[zb]at r⊢
   obtain⟨vs,e,r⟩:=r
   exact⟨vs,e,zco h r⟩
  ·exact h.elim
 ·exact Vq h
def leL:List AV→List AV→Prop
 |_,[]=>True
 | [],_::_=>False
 |x::xs,y::ys=>leA x y∧leL xs ys
theorem zdM:∀{xs ys:List AV},leL xs ys→ys.length≤xs.length∧∀(j:Nat) (y:AV),ys[j]?=some y→∃x,xs[j]?=some x∧LeA x y
 |xs,[],_=>by simp
 | [],y::ys,h=>h.elim
 |x::xs,y::ys,h=>by
  obtain⟨h1,h2⟩:=h
  obtain⟨h3,h4⟩:=zdM h2
  refine⟨by simpa using h3,fun j z hj=>?_⟩
  cases j with
  |zero=>simp at hj;subst hj;exact⟨x,rfl,Vq h1⟩
  |succ j=>simpa using h4 j z (by simpa using hj)
def leV(S:St):List (Nat×AV)→Prop
 | []=>True
 |(t,y)::l=>leA (S.get t) y∧leV S l
theorem zdf {S:St}:∀{l:List (Nat×AV)},leV S l→∀t y,look l t=some y→LeA (S.get t) y
 | [],_,t,y,h=>by simp[look]at h
 |(k,z)::l,h,t,y,hl=>by
  simp only[look]at hl
  split at hl
  ·rename_i e;subst e;injection hl with hl;subst hl;exact Vq h.1
  ·exact zdf h.2 t y hl
def leR(rs:List (Tok×List AV)):List (Tok×List AV)→Prop
 | []=>True
 |(t,ys)::l=>(match zn rs t with|some xs=>leL xs ys|none=>True)∧leR rs l
def has(l:List (Tok×List AV))(t:Tok):Bool:=l.any fun x=>x.1==t
theorem zhZ {l:List (Tok×List AV)} {t:Tok}(h:has l t=true):∃ys,zn l t=some ys:=by
 induction l with
 |nil=>simp[has]at h
 |cons x l ih=>
  obtain⟨k,y⟩:=x
  simp only[zn]
  split
  ·exact⟨_,rfl⟩
  ·rename_i hk
   refine ih ?_
   simp only[has,List.any_cons,Bool.or_eq_true,beq_iff_eq]at h⊢
   exact h.resolve_left hk
theorem zea {rs:List (Tok×List AV)}:∀{l:List (Tok×List AV)},leR rs l→∀t ys xs,zn l t=some ys→zn rs t=some xs→leL xs ys
 | [],_,t,ys,xs,h,_=>by simp[zn]at h
 |(k,z)::l,h,t,ys,xs,hl,hx=>by
  simp only[zn]at hl
  split at hl
  ·rename_i e;subst e;injection hl with hl;subst hl
   have:=h.1
   rw[hx]at this;exact this
  ·exact zea h.2 t ys xs hl hx
def LeS(S S1:St):Prop:=
 (S1.n=S.n∧S1.pin=S.pin∧S1.ts=[]∧S.pin.all (has S1.rs)=true)∧
  leV (S.fil (has S1.rs) ftt) S1.vs∧leR (S.fil (has S1.rs) ftt).rs S1.rs
theorem SR.le [Gi] {E:Ent} {S S1:St} {g:Gh} {a:Act} {w:World}(h:SR E S g a w)(hl:LeS S S1):∃g',SR E S1 g' a w:=by
 obtain⟨⟨h1,h2,h3,h4⟩,h5,h6⟩:=hl
 have k:=h.filter (has S1.rs) ftt (fun t ht=>List.all_eq_true.1 h4 t ht)
 refine⟨_,by rw[h1];exact k.size,k.defers,fun t=>?_,fun b t hk=>?_,k.ur,k.ut,k.own,k.frame,k.ext,k.out,k.mono,k.frb,fun b t hk ht=>k.pins b t hk (by show t∈S.pin;rw[←h2];exact ht)⟩
 ·unfold St.get
  split
  ·cases hx:look S1.vs t with
   |none=>simp only[qt,zb]
   |some y=>exact zdf h5 t y hx _ _ _ (k.slots t)
  ·rw[h3];simp only[look,qt,zb]
 ·obtain⟨xs,hl,h0,arr,T,hb,hle,hc⟩:=k.roots b t hk
  obtain⟨ys,hy⟩:=zhZ (Gh.qc.1 hk).2
  obtain⟨hlen,hget⟩:=zdM (zea h6 t ys xs hy hl)
  refine⟨ys,hy,h0,arr,T,hb,by omega,fun j y hj=>?_⟩
  obtain⟨x,hx,hxy⟩:=hget j y hj
  obtain⟨v,hv,e,r⟩:=hc j x hx
  exact⟨v,hv,e,hxy _ _ _ r⟩
def zb5(S:St)(mm:List (Tok×Tok)):St:=
 {S with vs:=S.vs.map fun x=>(x.1,x.2.ren (inM mm)),ts:=S.ts.map fun x=>(x.1,x.2.ren (inM mm)),rs:=qW S mm mm}
theorem St.zmM(S:St)(mm:List (Tok×Tok))(t:Nat):(zb5 S mm).get t=(S.get t).ren (inM mm):=by
 have hk:(zb5 S mm).kept t=S.kept t:=rfl
 unfold St.get
 rw[hk]
 have h:∀l:List (Nat×AV),qt (look (l.map fun x=>(x.1,x.2.ren (inM mm))) t)=(qt (look l t)).ren (inM mm):=fun l=>by
  rw[vG (AV.ren (inM mm))]
  cases look l t<;>simp[qt,AV.ren,AV.upd,KK,yf]
 split
 ·exact h S.vs
 ·exact h S.ts
theorem SR.zb5 [Gi] {E:Ent} {S:St} {g:Gh} {a:Act} {w:World}(h:SR E S g a w) {mm:List (Tok×Tok)}(ok:okM 1000000 mm=true)(hp:S.pin.all (fun t=>inM mm t==some t)=true):SR E (AM.zb5 S mm) (g.ZQ mm) a w:=by
 have G:=h.ZQ ok
 refine⟨h.size,h.defers,fun t=>?_,G.roots,G.ur,G.ut,fun b hb=>h.own b (fun e=>hb ?_),h.frame,h.ext,h.out,h.mono,h.frb,fun b t hk ht=>⟨?_,(h.pins b t hk ht).2⟩⟩
 ·rw[St.zmM];exact zb.ren (Ren.ZQ g mm) _ _ (h.slots t)
 ·show(g.K b).ren _=.prot
  rw[e];rfl
 ·have:=List.all_eq_true.1 hp t ht
  simp at this
  exact Kd.Z1.2 ⟨t,(h.pins b t hk ht).1,this⟩
def LeR(S S1:St):Prop:=LeS S S1∨∃mm,okM 1000000 mm=true∧S.pin.all (fun t=>inM mm t==some t)=true∧LeS (zb5 S mm) S1
theorem SR.leR [Gi] {E:Ent} {S S1:St} {g:Gh} {a:Act} {w:World}(h:SR E S g a w)(hl:LeR S S1):∃g',SR E S1 g' a w:=by
 rcases hl with hl|⟨mm,h1,h2,hl⟩
 ·exact h.le hl
 ·exact(h.zb5 h1 h2).le hl
def zgl [Gi](P:Program)(ops:Array Oper)(K:St→Prop)(S:St):Prop:=
 ∃(t:OT) (K':St→Prop),(Region.noSelect ops&&okT ops ops.size (Array.replicate ops.size false) t)=true∧kg P ops K' t S∧∀S',K' S'→K S'∨∃S1,LeR S' S1∧K S1
theorem zez [Gi] {P:Program} {ops:Array Oper} {K K2:St→Prop} {S:St}(hk:∀S,K S→K2 S)(h:zgl P ops K S):zgl P ops K2 S:=by
 obtain⟨t,K',h1,h2,h3⟩:=h
 refine⟨t,K',h1,h2,fun S' k=>?_⟩
 rcases h3 S' k with h|⟨S1,hl,h⟩
 ·exact .inl (hk _ h)
 ·exact .inr ⟨S1,hl,hk _ h⟩
def lfA [Gi](P:Program)(ops:Array Oper)(b:Bool)(S:St)(K:St→Prop):Prop:=if b=true then YX P ops S K else VN P ops S K
def wpA [Gi](P:Program)(D:List Nat):Code→(Exit→St→Prop)→St→Prop
 |.skip,Q,S=>Q .normal S
 |.region id ops draw,Q,S=>if(draw&&D.contains (id+200000))=true then zgl P ops (Q .normal) {S with ts:=[]}else if(draw&&D.contains (id+100000))=true then lfA P ops (D.contains id) {S with ts:=[]} (Q .normal)else if(draw&&D.contains id)=true then ye P ops ops.toList (yN P ops.toList {S with ts:=[]}) (Q .normal)else Zu P ops ops.toList {S with ts:=[]} (Q .normal)
 |.seq x y,Q,S=>wpA P D x (fun e S'=>match e with|.normal=>wpA P D y Q S'|e=>Q e S') S
 |.cond c x y,Q,S=>
  match S.ev c with
  |.p (.bool b)=>(b=true→wpA P D x Q S)∧(b=false→wpA P D y Q S)
  |_=>False
 |.block id c,Q,S=>wpA P D c (fun e S'=>match e with|.exit i=>if i=id then Q .normal S' else Q (.exit i) S'|e=>Q e S') S
 |.loop c,Q,S=>∃(ι:Type) (st:ι→St) (m:ι→Nat),(∃i,LeS S (st i))∧∀i,wpA P D c (fun e S'=>match e with|.normal=>∃j,LeR S' (st j)∧m j<m i|e=>Q e S') (st i)
 |.exit id,Q,S=>Q (.exit id) S
 |.ret,Q,S=>Q .ret S
 |_,_,_=>False
def Zt(D:List Nat):Code→Bool
 |.region id ops draw=>!draw || D.contains (id+200000) || bif D.contains (id+100000)then(bif D.contains id then za0 ops else Ju ops)else bif D.contains id then zb1 ops else Ye ops
 |.seq x y=>Zt D x&&Zt D y
 |.cond _ x y=>Zt D x&&Zt D y
 |.block _ c=>Zt D c
 |.loop c=>Zt D c
 |_=>true
def post [Gi](E:Ent)(Q:Exit→St→Prop):Exit→Act→World→Prop:=fun e a w=>∃S g,Q e S∧SR E S g a w
theorem SR.clean [Gi] {E:Ent} {S:St} {g:Gh} {a:Act} {w:World}(h:SR E S g a w):SR E {S with ts:=[]} g a w:=by
 refine⟨h.size,h.defers,fun t=>?_,h.roots,h.ur,h.ut,h.own,h.frame,h.ext,h.out,h.mono,h.frb,h.pins⟩
 have hs:=h.slots t
 have hk:({S with ts:=[]}:St).kept t=S.kept t:=rfl
 unfold St.get at hs⊢
 rw[hk]
 split
 ·rename_i hc;rw[if_pos hc]at hs;exact hs
 ·simp only[look,qt,zb]
theorem J8 {P:Program} {c:Code} {Q:Exit→Act→World→Prop} {ι:Type}(I:ι→Act→World→Prop)(m:ι→Nat) {a:Act} {w:World} {i₀:ι}(h0:I i₀ a w)
  (round:∀i a w,I i a w→c.wp P (Exit.then (fun a' w'=>∃j,I j a' w'∧m j<m i) Q) a w):(Code.loop c).wp P Q a w:=by
 intro b k cs
 have key:∀n i a w,m i=n→I i a w→
   ∃e a' w',Q e a' w'∧Arrives P (lone (b.at a (.code c::.inLoop c::k)) cs w) b k cs e a' w':=by
  intro n
  induction n using Nat.strongRecOn with
  |_ n ih=>
   intro i a w hn hI
   obtain⟨e,a₁,w₁,hq,harr⟩:=round i a w hI b (.inLoop c::k) cs
   cases e with
   |normal=>
    obtain⟨j,hI₁,hlt⟩:=hq
    obtain⟨e₂,a₂,w₂,hq₂,harr₂⟩:=ih (m j) (hn▸hlt) j a₁ w₁ rfl hI₁
    exact⟨e₂,a₂,w₂,hq₂,.of_steps (Steps.trans harr (.one step_inLoop)) harr₂⟩
   |exit id=>exact⟨_,a₁,w₁,hq,.pass (x:=.inLoop c) rfl (fun _ _=>.inl (by simp)) harr⟩
   |goto l=>exact⟨_,a₁,w₁,hq,.pass (x:=.inLoop c) rfl (fun _ _=>.inl (by simp)) harr⟩
   |ret=>exact⟨_,a₁,w₁,hq,.pass (x:=.inLoop c) rfl (fun _ _=>.inl (by simp)) harr⟩
   |panic ch=>exact⟨_,a₁,w₁,hq,.pass (x:=.inLoop c) rfl (fun _ _=>.inl (by simp)) harr⟩
   |outgrown=>exact⟨_,a₁,w₁,hq,.pass (x:=.inLoop c) rfl (fun _ _=>.inl (by simp)) harr⟩
 obtain⟨e,a',w',hq,harr⟩:=key _ i₀ a w rfl h0
 exact⟨e,a',w',hq,.of_steps (.one step_loop) harr⟩
theorem ZJ [Gi] {P:Program} {D:List Nat}(hm:P.follows .mixedOrders=true) {E:Ent}:∀(c:Code) {Q:Exit→St→Prop} {S:St} {g:Gh} {a:Act} {w:World},Zt D c=true→wpA P D c Q S→SR E S g a w→c.wp P (post E Q) a w
 |.skip,Q,S,g,a,w,_,h,hS=>wp_skip ⟨S,g,h,hS⟩
 |.region id ops draw,Q,S,g,a,w,hc,h,hS=>by
  simp only[Zt]at hc
  simp only[wpA]at h
  by_cases hT:(draw&&D.contains (id+200000))=true
  ·rw[if_pos hT]at h
   simp only[Bool.and_eq_true]at hT
   obtain⟨rfl,_⟩:=hT
   obtain⟨t,K',h1,h2,h3⟩:=h
   refine Xl hm (K:=K') (fun S' g' a' w' hk hs=>?_) ⟨t,h1,h2⟩ hS.clean
   rcases h3 S' hk with h|⟨S1,hl,h⟩
   ·exact⟨S',g',h,hs⟩
   ·obtain⟨g2,hs2⟩:=hs.leR hl
    exact⟨S1,g2,h,hs2⟩
  rw[if_neg hT]at h
  have hc:(!draw || bif D.contains (id+100000)then(bif D.contains id then za0 ops else Ju ops)else bif D.contains id then zb1 ops else Ye ops)=true:=by
   cases draw with
   |false=>rfl
   |true=>
    have:D.contains (id+200000)=false:=by simpa using hT
    rw[this]at hc
    simpa using hc
  by_cases hL:(draw&&D.contains (id+100000))=true
  ·rw[if_pos hL]at h
   simp only[Bool.and_eq_true]at hL
   obtain⟨rfl,hL⟩:=hL
   rw[hL]at hc
   unfold lfA at h
   by_cases hD:D.contains id=true
   ·rw[if_pos hD]at h
    rw[hD]at hc
    exact Xh hm (by simpa using hc) (K:=Q .normal) (fun S' g' a' w' hk hs=>⟨S',g',hk,hs⟩) h hS.clean
   ·rw[if_neg hD]at h
    have hD':D.contains id=false:=by simpa using hD
    rw[hD']at hc
    exact Y9 hm (by simpa using hc) (K:=Q .normal) (fun S' g' a' w' hk hs=>⟨S',g',hk,hs⟩) h hS.clean
  rw[if_neg hL]at h
  have hc:(!draw || bif D.contains id then zb1 ops else Ye ops)=true:=by
   cases draw with
   |false=>rfl
   |true=>
    have:D.contains (id+100000)=false:=by simpa using hL
    rw[this]at hc
    exact hc
  by_cases hD:(draw&&D.contains id)=true
  ·rw[if_pos hD]at h
   simp only[Bool.and_eq_true]at hD
   obtain⟨rfl,hD⟩:=hD
   rw[hD]at hc
   exact Xn hm (by simpa using hc) (K:=Q .normal) (fun S' g' a' w' hk hs=>⟨S',g',hk,hs⟩) h hS.clean
  ·rw[if_neg hD]at h
   refine zbV hm ?_ (K:=Q .normal) (fun S' g' a' w' hk hs=>⟨S',g',hk,hs⟩) h hS.clean
   cases draw with
   |false=>rfl
   |true=>
    simp only[Bool.true_and]at hD
    have:D.contains id=false:=by simpa using hD
    rw[this]at hc
    simpa using hc
 |.seq x y,Q,S,g,a,w,hc,h,hS=>by
  simp only[Zt,Bool.and_eq_true]at hc
  simp only[wpA]at h
  refine wp_seq (wp_mono (ZJ hm x hc.1 h hS) ?_)
  rintro e a' w' ⟨S',g',hq,hs⟩
  cases e with
  |normal=>exact ZJ hm y hc.2 hq hs
  |_=>exact⟨S',g',hq,hs⟩
 |.cond c x y,Q,S,g,a,w,hc,h,hS=>by
  simp only[Zt,Bool.and_eq_true]at hc
  simp only[wpA]at h
  have hr:=hS.ev c
  split at h
  ·rename_i b hb
   rw[hb]at hr
   simp only[zb,zl]at hr
   cases b with
   |true=>exact wp_cond_true hr (ZJ hm x hc.1 (h.1 rfl) hS)
   |false=>exact wp_cond_false hr (ZJ hm y hc.2 (h.2 rfl) hS)
  ·exact h.elim
 |.block id c,Q,S,g,a,w,hc,h,hS=>by
  simp only[Zt]at hc
  simp only[wpA]at h
  refine wp_block (wp_mono (ZJ hm c hc h hS) ?_)
  rintro e a' w' ⟨S',g',hq,hs⟩
  cases e with
  |exit i=>
   simp only[Exit.inBlock]
   simp only[]at hq
   split
   ·rename_i hi;rw[if_pos hi]at hq;exact⟨S',g',hq,hs⟩
   ·rename_i hi;rw[if_neg hi]at hq;exact⟨S',g',hq,hs⟩
  |_=>exact⟨S',g',hq,hs⟩
 |.loop c,Q,S,g,a,w,hc,h,hS=>by
  simp only[Zt]at hc
  simp only[wpA]at h
  obtain⟨ι,st,m,⟨i,hi⟩,hround⟩:=h
  obtain⟨g0,h0⟩:=hS.le hi
  refine J8 (fun i a w=>∃g,SR E (st i) g a w) m (i₀:=i) ⟨g0,h0⟩ ?_
  rintro i a w ⟨g,hs⟩
  refine wp_mono (ZJ hm c hc (hround i) hs) ?_
  rintro e a' w' ⟨S',g',hq,hs'⟩
  cases e with
  |normal=>
   obtain⟨j,hj,hlt⟩:=hq
   obtain⟨g'',h''⟩:=hs'.leR hj
   exact⟨j,⟨g'',h''⟩,hlt⟩
  |_=>exact⟨S',g',hq,hs'⟩
 |.exit id,Q,S,g,a,w,_,h,hS=>wp_exit ⟨S,g,h,hS⟩
 |.ret,Q,S,g,a,w,_,h,hS=>wp_ret ⟨S,g,h,hS⟩
 |.rangeFunc ..,Q,S,g,a,w,_,h,hS=>by simp only[wpA]at h
 |.scope _,Q,S,g,a,w,_,h,hS=>by simp only[wpA]at h
 |.label _,Q,S,g,a,w,_,h,hS=>by simp only[wpA]at h
 |.goto _,Q,S,g,a,w,_,h,hS=>by simp only[wpA]at h
 |.refuse _,Q,S,g,a,w,_,h,hS=>by simp only[wpA]at h
def ud:Nat→List AV→List (Nat×AV)
 |_,[]=>[]
 |k,x::l=>(k,x)::ud (k+1) l
theorem xJ:∀(l:List AV) (k t:Nat),look (ud k l) t=if k≤t then l[t-k]? else none
 | [],k,t=>by simp[ud,look]
 |x::l,k,t=>by
  simp only[ud,look]
  split
  ·rename_i h;subst h;simp
  ·rename_i h
   rw[xJ l (k+1) t]
   by_cases h1:k≤t
   ·rw[if_pos h1,if_pos (by omega)]
    have:t-k=(t- (k+1))+1:=by omega
    rw[this,List.getElem?_cons_succ]
   ·rw[if_neg h1,if_neg (by omega)]
def ZD:List ResultVar→List (Nat×Option TypeId)
 | []=>[]
 |.tmp t::l=>(t,none)::ZD l
 |.cell a t::l=>(a,some t)::ZD l
def uV:List ResultVar→Option (List (Nat×Option TypeId))
 | []=>some []
 |.tmp t::l=>(uV l).map ((t,none)::·)
 |.cell a t::l=>(uV l).map ((a,some t)::·)
theorem zbO:∀{l:List ResultVar} {ts:List (Nat×Option TypeId)},uV l=some ts→ZD l=ts
 | [],ts,h=>by simp only[uV,Option.some.injEq]at h;subst h;rfl
 |.tmp t::l,ts,h=>by
  simp only[uV,Option.map_eq_some_iff]at h
  obtain⟨us,h1,rfl⟩:=h
  simp[ZD,zbO h1]
 |.cell a t::l,ts,h=>by
  simp only[uV,Option.map_eq_some_iff]at h
  obtain⟨us,h1,rfl⟩:=h
  simp[ZD,zbO h1]
def zcf(P:Program)(S:St):Nat×Option TypeId→PR
 |(t,none)=>(True,S.get t)
 |(a,some T)=>yc P S T (S.get a)
def V4(P:Program)(S:St):List (Nat×Option TypeId)→Prop
 | []=>True
 |r::l=>(zcf P S r).1∧V4 P S l
def zf(P:Program)(S:St):List (Nat×Option TypeId)→PR
 | [r]=>zcf P S r
 |rs=>(V4 P S rs,.tup (rs.map fun r=>(zcf P S r).2))
def VI(kr:List Tok)(rs:List (Tok×List AV)):List (Tok×List AV):=rs.filter fun x=>kr.contains x.1
theorem U5 {kr:List Tok} {t:Tok}(h:kr.contains t=true):∀{rs:List (Tok×List AV)} {cs:List AV},zn rs t=some cs→zn (VI kr rs) t=some cs
 | [],cs,hl=>by simp[zn]at hl
 |(k,x)::rs,cs,hl=>by
  simp only[zn]at hl
  unfold VI
  simp only[List.filter_cons]
  split at hl
  ·rename_i e;subst e
   rw[if_pos (by simpa using h)]
   simp only[zn,if_true];exact hl
  ·rename_i e
   have ih:=U5 h hl
   split
   ·simp only[zn,if_neg e];exact ih
   ·exact ih
def uT(P:Program)(pin:List Tok)(ts:List (Nat×Option TypeId))(R:AV→List (Tok×List AV)→Prop)(S:St):Prop:=
 ∃(kr:List Tok) (x:AV),(S.pin=pin∧S.pin.all (fun t=>kr.contains t)=true)∧((zf P S ts).1∧leT ((zf P S ts).2.upd (AM.fil (fun t=>kr.contains t) ftt)) x)∧R x (VI kr (S.fil (fun t=>kr.contains t) ftt).rs)
def Wk(P:Program)(pin:List Tok)(ts:List (Nat×Option TypeId))(R:AV→List (Tok×List AV)→Prop):Exit→St→Prop
 |.normal,S=>uT P pin ts R S
 |.ret,S=>uT P pin ts R S
 |_,_=>False
theorem zeS {P:Program} {S:St} {t:TypeId} {x:AV}(h:(yc P S t x).1):Ux x=true:=by
 unfold yc at h
 split at h
 ·split at h
  ·rfl
  ·rfl
  ·exact h.elim
 ·exact h.elim
theorem Jw [Gi] {P:Program} {E:Ent} {S:St} {g:Gh} {a:Act} {w:World}(hS:SR E S g a w)(F:ResultVar→Sem Value)(h1:∀t,F (.tmp t)=pure (a.tmps.getD t undef))(h2:∀b t,F (.cell b t)=do loadVar t (←asAddr (a.tmps.getD b undef))):
  ∀{l:List ResultVar},V4 P S (ZD l)→∃vs:List Value,(l.mapM F:Sem (List Value)).run P w=.ok vs w∧zo g w ((ZD l).map fun r=>(zcf P S r).2) vs
 | [],_=>⟨[],rfl,by simp[ZD,zo]⟩
 |.tmp t::l,h=>by
  obtain⟨vs,e,r⟩:=Jw hS F h1 h2 (l:=l) h.2
  refine⟨a.tmps.getD t undef::vs,?_,?_⟩
  ·simp only[List.mapM_cons,Sem.run_bind,h1,Sem.run_pure,Result.andThen_ok,e]
  ·simp only[ZD,List.map_cons,zo,zcf]
   exact⟨_,_,rfl,hS.slots t,r⟩
 |.cell b t::l,h=>by
  obtain⟨vs,e,r⟩:=Jw hS F h1 h2 (l:=l) h.2
  have hh:(yc P S t (S.get b)).1:=h.1
  obtain⟨u,hu,hr⟩:=xd hS hh (hS.slots b)
  obtain⟨p,hp⟩:=K9 (zeS hh) (hS.slots b)
  have hF:(F (.cell b t)).run P w=.ok u w:=by
   rw[h2,hp]
   rw[hp]at hu
   exact hu
  refine⟨u::vs,?_,?_⟩
  ·simp only[List.mapM_cons,Sem.run_bind,hF,Sem.run_pure,Result.andThen_ok,e]
  ·simp only[ZD,List.map_cons,zo,zcf]
   exact⟨_,_,rfl,hr,r⟩
theorem zg2 {P:Program} {S:St}:∀{ts:List (Nat×Option TypeId)},(zf P S ts).1→V4 P S ts
 | [],h=>h
 | [_],h=>⟨h,trivial⟩
 |_::_::_,h=>h
theorem Vf [Gi] {P:Program} {fn:Func} {ts:List (Nat×Option TypeId)} {w w':World} {g g':Gh} {hG:Y1 g w} {pin:List Tok} {R:AV→List (Tok×List AV)→Prop} {S':St} {a':Act}
  (hres:uV fn.results.toList=some ts) (hs:SR ⟨w,g,hG⟩ S' g' a' w'):uT P pin ts R S'→
  ∃v,(results fn a'.tmps).run P w'=.ok v w'∧∃v' x rs' g'',Ending.returned v=.returned v'∧R x rs'∧zb g'' w' x v'∧GS g'' w' rs'∧Aft g w g'' w' pin:=by
 rintro⟨kr,x,⟨hpin,hkr⟩,⟨hres1,hle⟩,hR⟩
 have k:=hs.filter (fun t=>kr.contains t) ftt (fun t ht=>List.all_eq_true.1 hkr t ht)
 have kp:vu g' w' (g'.fil (fun t=>kr.contains t) ftt) w' (fun t=>kr.contains t) ftt:=⟨Ext.refl _ _,fun b t ht hk=>⟨Gh.qc.2 ⟨hk,ht⟩,fun _ hn=>hn⟩,fun b t ht hk=>⟨Gh.qT.2 ⟨hk,ht⟩,rfl,rfl⟩⟩
 have hres:=zbO hres
 subst hres
 obtain⟨vs,hvs,hrs⟩:=Jw (P:=P) hs (fun|.tmp t=>pure (a'.tmps.getD t undef)|.cell b t=>do loadVar t (←asAddr (a'.tmps.getD b undef))) (fun _=>rfl) (fun _ _=>rfl) (zg2 hres1)
 have hrun:∀v,v=(if h:vs.toArray.size=1 then vs.toArray[0]else .tuple vs.toArray)→(results fn a'.tmps).run P w'=.ok v w':=by
  intro v hv
  unfold results
  rw[Sem.run_bind,Array.mapM_eq_mapM_toList,Sem.run_map]
  have hvs':=hvs
  rw[hv]
  erw [hvs']
  rfl
 have hrep:∃v,(results fn a'.tmps).run P w'=.ok v w'∧zb (g'.fil (fun t=>kr.contains t) ftt) w' ((zf P S' (ZD fn.results.toList)).2.upd (AM.fil (fun t=>kr.contains t) ftt)) v:=by
  have many:(∀r,ZD fn.results.toList≠ [r])→∃v,(results fn a'.tmps).run P w'=.ok v w'∧zb g' w' (zf P S' (ZD fn.results.toList)).2 v:=by
   intro hne
   refine⟨.tuple vs.toArray,hrun _ ?_,?_⟩
   ·rw[dif_neg]
    have hl:vs.length=(ZD fn.results.toList).length:=by
     have:∀(xs:List AV) (vs:List Value),zo g' w' xs vs→vs.length=xs.length:=by
      intro xs
      induction xs with
      |nil=>intro vs h;simp only[zo]at h;subst h;rfl
      |cons x xs ih=>intro vs h;simp only[zo]at h;obtain⟨_,vs',rfl,_,h⟩:=h;simp[ih vs' h]
     simpa using this _ _ hrs
    intro h1
    have h1':vs.length=1:=by simpa using h1
    rw[hl]at h1'
    obtain⟨r,hr⟩:=List.length_eq_one_iff.1 h1'
    exact hne r hr
   ·have e:zf P S' (ZD fn.results.toList)=(V4 P S' (ZD fn.results.toList),.tup ((ZD fn.results.toList).map fun r=>(zcf P S' r).2)):=by
     unfold zf
     split
     ·rename_i r hr;exact absurd hr (hne r)
     ·rfl
    rw[e]
    simp only[zb]
    exact⟨_,rfl,by simpa using hrs⟩
  by_cases h1:∃r,ZD fn.results.toList=[r]
  ·obtain⟨r,hr⟩:=h1
   rw[hr]at hrs
   simp only[List.map_cons,List.map_nil,zo]at hrs
   obtain⟨v,_,rfl,hv,rfl⟩:=hrs
   refine⟨v,hrun v (by simp),?_⟩
   rw[hr]
   exact zb.upd kp _ _ hv
  ·obtain⟨v,e,hv⟩:=many (fun r hr=>h1 ⟨r,hr⟩)
   exact⟨v,e,zb.upd kp _ _ hv⟩
 obtain⟨v,hv1,hv2⟩:=hrep
 refine⟨v,hv1,v,x,_,g'.fil (fun t=>kr.contains t) ftt,rfl,hR,zkI hle _ _ _ hv2,⟨fun b t hk=>?_,k.ur,k.ut,fun b hb=>(k.own b hb).1,k.frb,k.gl⟩,⟨fun b hb hk=>?_,k.ext,k.out,k.mono,fun b t hk ht=>?_⟩⟩
 ·obtain⟨cs,hl,hrest⟩:=k.roots b t hk
  exact⟨cs,U5 (Gh.qc.1 hk).2 hl,hrest⟩
 ·have hmay:¬(Ent.mk w g hG).may b:=by
   unfold Ent.may
   rintro(h'|h')
   ·have:w.heap.size≤b:=h';omega
   ·exact h' hk
  refine⟨(k.frame b hmay).1,(k.frame b hmay).2,?_⟩
  rcases Classical.em ((g'.fil (fun t=>kr.contains t) ftt).K b=.prot)with e|e
  ·exact e
  ·exact absurd (k.own b e).2 hmay
 ·have hp:t∈S'.pin:=by rw[hpin];exact ht
  exact k.pins b t hk hp
theorem zaw [Gi] {P:Program}(D:List Nat)(hm:P.follows .mixedOrders=true) {f:FuncId} {fn:Func} {c:Code} {ts:List (Nat×Option TypeId)}(nv:Nat)(ex:List Nat)(hf:P.funcs[f]?=some fn)(hb:fn.body=some c)(hok:Zt D c=true)(rm:List Nat)(bt:List TypeId)
  (hres:uV fn.results.toList=some ts) {pin:List Tok} {args:List AV} {rs:List (Tok×List AV)} {R:AV→List (Tok×List AV)→Prop} (hnv:args.length≤nv) (hn:args.length≤fn.ntmps)
  (h:wpA P D c (Wk P pin ts R) {n:=fn.ntmps,nv:=nv,vs:=ud 0 args,ts:=[],rs:=rs,pin:=pin,ex:=ex,rm:=rm,bt:=bt}):CR P f pin args rs R:=by
 intro w g vs hargs hG
 have hlen:vs.length=args.length:=by
  have h0:args.length≤nv:=hnv
  clear h0 h hnv hn
  induction args generalizing vs with
  |nil=>simp only[zo]at hargs;subst hargs;rfl
  |cons x xs ih=>simp only[zo]at hargs;obtain⟨v,vs',rfl,_,h2⟩:=hargs;simp[ih vs' h2]
 let E:Ent:=⟨w,g,hG.gl⟩
 have hS:SR E {n:=fn.ntmps,nv:=nv,vs:=ud 0 args,ts:=[],rs:=rs,pin:=pin,ex:=ex,rm:=rm,bt:=bt} g {tmps:=vs.toArray++Array.replicate (fn.ntmps-vs.toArray.size) undef,defers:=[]} w:=by
  refine⟨by simp;omega,rfl,fun t=>?_,hG.roots,hG.ur,hG.ut,fun b hb=>⟨hG.own b hb,.inr hb⟩,fun b _=>⟨rfl,rfl⟩,Ext.refl _ _,⟨rfl,rfl,rfl⟩,Nat.le_refl _,hG.frb,fun b t hk _=>⟨hk,fun _ hn=>hn⟩⟩
  unfold St.get
  split
  ·simp only[xJ,Nat.zero_le,if_true,Nat.sub_zero]
   cases hx:args[t]? with
   |none=>simp only[qt,zb]
   |some x=>
    simp only[qt]
    obtain⟨v,hv,hr⟩:=hargs.get hx
    have hvl:=(List.getElem?_eq_some_iff.1 hv).1
    have:(vs.toArray++Array.replicate (fn.ntmps-vs.toArray.size) undef).getD t undef=v:=by
     simp[Array.getD_eq_getD_getElem?,Array.getElem?_append,hvl]
     have:=(List.getElem?_eq_some_iff.1 hv).2
     exact this
    rw[this];exact hr
  ·simp only[look,qt,zb]
 refine calls_of_wp hf hb (wp_mono (ZJ hm c hok h hS) ?_)
 rintro e a' w' ⟨S',g',hq,hs⟩
 have fin:uT P pin ts R S'→a'.defers=[]∧∃v,(results fn a'.tmps).run P w'=.ok v w'∧∃v' x rs' g'',Ending.returned v=.returned v'∧R x rs'∧zb g'' w' x v'∧GS g'' w' rs'∧Aft g w g'' w' pin:=fun h=>⟨hs.defers,Vf hres hs h⟩
 cases e with
 |normal=>exact fin hq
 |ret=>exact fin hq
 |_=>exact hq.elim
theorem uI [Gi] {P:Program}(D:List Nat)(hm:P.follows .mixedOrders=true) {f:FuncId} {fn:Func} {c:Code} {ts:List (Nat×Option TypeId)}(nv:Nat)(ex:List Nat)(hf:P.funcs[f]?=some fn)(hb:fn.body=some c)(hok:Zt D c=true)(rm:List Nat)
  (hres:uV fn.results.toList=some ts) {pin:List Tok} {args:List AV} {rs:List (Tok×List AV)} {R:AV→List (Tok×List AV)→Prop} (hnv:args.length≤nv) (hn:args.length≤fn.ntmps)
  (h:wpA P D c (Wk P pin ts R) {n:=fn.ntmps,nv:=nv,vs:=ud 0 args,ts:=[],rs:=rs,pin:=pin,ex:=ex,rm:=rm}):CR P f pin args rs R:=
 zaw D hm nv ex hf hb hok rm [] hres hnv hn h
theorem zK [Gi] {P:Program}(D:List Nat)(hm:P.follows .mixedOrders=true) {f:FuncId} {fn:Func} {c:Code} {ts:List (Nat×Option TypeId)}(nv:Nat)(ex:List Nat)(hf:P.funcs[f]?=some fn)(hb:fn.body=some c)(hok:Zt D c=true)
  (hres:uV fn.results.toList=some ts) {pin:List Tok} {args:List AV} {rs:List (Tok×List AV)} {R:AV→List (Tok×List AV)→Prop} (hnv:args.length≤nv) (hn:args.length≤fn.ntmps)
  (h:wpA P D c (Wk P pin ts R) {n:=fn.ntmps,nv:=nv,vs:=ud 0 args,ts:=[],rs:=rs,pin:=pin,ex:=ex}):CR P f pin args rs R:=
 uI D hm nv ex hf hb hok [] hres hnv hn h
theorem zx [Gi] {P:Program}(hm:P.follows .mixedOrders=true) {f:FuncId} {fn:Func} {c:Code} {ts:List (Nat×Option TypeId)}(nv:Nat)(ex:List Nat)(hf:P.funcs[f]?=some fn)(hb:fn.body=some c)(hok:Zt [] c=true)
  (hres:uV fn.results.toList=some ts) {pin:List Tok} {args:List AV} {rs:List (Tok×List AV)} {R:AV→List (Tok×List AV)→Prop} (hnv:args.length≤nv) (hn:args.length≤fn.ntmps)
  (h:wpA P [] c (Wk P pin ts R) {n:=fn.ntmps,nv:=nv,vs:=ud 0 args,ts:=[],rs:=rs,pin:=pin,ex:=ex}):CR P f pin args rs R:=
 zK [] hm nv ex hf hb hok hres hnv hn h
end
end Go.AM
