/- A part of this seat's proofs, by an abstract machine. Conditions: each law's. -/
import Derived.Test.YtfjdbbpimklecaaGreatDoorV27
import Derived.Test.YtfjdbbpimklecaaGreatDoorV17
import Derived.OpenVars
set_option maxRecDepth 10000
namespace Go.AM
section
def XA(o:Oper):Bool:=match o.op with
 |.convert .. =>true
 |_=>false
mutual
def xf [Gi](P:Program)(ops:Array Oper)(K:St→Prop):OT→St→Prop
 |.mk [],S=>K S
 |.mk (x::l),S=>xI P ops K (x::l) S
 |.now i c t,S=>Xr P S c (fun S'=>xf P ops K t S') ops[i]?
def xI [Gi](P:Program)(ops:Array Oper)(K:St→Prop):List (Nat×OT)→St→Prop
 | [],_=>True
 |(i,t)::l,S=>(match ops[i]? with
  |some o=>Uc (qE P S o) (XA o)∧match zY ops S o with
   |some c=>QQ P S o c (xf P ops K t)
   |none=>False
  |none=>False)∧xI P ops K l S
end
theorem KU [Gi] {P:Program} {ops:Array Oper} {K:St→Prop} {S:St}:∀{l:List (Nat×OT)} {i:Nat} {t:OT},xI P ops K l S→(i,t)∈l→
  ∃o c,ops[i]?=some o∧Uc (qE P S o) (XA o)∧zY ops S o=some c∧QQ P S o c (xf P ops K t)
 |(j,u)::l,i,t,h,hm=>by
  simp only[xI]at h
  rcases List.mem_cons.1 hm with e|hm
  ·injection e with e1 e2;subst e1;subst e2
   have h1:=h.1
   cases ho:ops[i]? with
   |none=>rw[ho]at h1;exact h1.elim
   |some o=>
    rw[ho]at h1
    simp only at h1
    cases hg:zY ops S o with
    |none=>rw[hg]at h1;exact h1.2.elim
    |some c=>rw[hg]at h1;exact⟨o,c,rfl,h1.1,hg,h1.2⟩
  ·exact KU h.2 hm
theorem Yw [Gi] {P:Program} {ops:Array Oper} {E:Ent} {S:St} {g:Gh} {a:Act} {w:World}(hS:SR E S g a w) {i:Nat} {o:Oper}(hi:ops[i]?=some o) {c:Option Bool}(hc:zY ops S o=some c)(hd:Uc (qE P S o) (XA o)) {K:St→Prop}(h:QQ P S o c K)
  {next:Act→World→Prop} {Q:Exit→Act→World→Prop} (hK:∀S' g' a' w',K S'→SR E S' g' a' w'→next a' w'):wpOp P ops Q i (fun a' w'=>jw ops i w w'∧next a' w') a w:=by
 by_cases hx:∃x,o.op=.assign x
 ·obtain⟨x,hx⟩:=hx
  have base:=wX (P:=P) hS hc h (next:=next) (Q:=Q) hK
  have hk:jw ops i w w:=by
   unfold jw;rw[hi]
   refine⟨fun _=>rfl,fun ha=>?_⟩
   exfalso
   obtain⟨dst,op,tt,pos,after,guard⟩:=o
   simp only at hx
   subst hx
   simp[adO,Q9,YO]at ha
  have hrun:(execOp a.eval o).run P w=.ok (.value (a.eval x)) w:=by unfold execOp;rw[hx];rfl
  unfold wpOp
  simp only[hi]
  split
  ·rename_i hw
   rw[if_pos hw]at base
   refine .inl ?_
   unfold Oper.wp at base⊢
   rw[hrun]at base⊢
   exact⟨hk,base⟩
  ·rename_i hw
   rw[if_neg hw]at base
   exact⟨hk,base⟩
 ·have e:Ur o=XA o:=by
   unfold Ur XA
   cases ho:o.op<;>first|rfl|exact absurd ⟨_,ho⟩ hx
  exact WC hS hi hc (by rw[e];exact hd) h hK
theorem uJ [Gi] {P:Program} {ops:Array Oper} {Q:Exit→Act→World→Prop} {E:Ent} {K:St→Prop}(hQ:∀S' g' a' w',K S'→SR E S' g' a' w'→Q .normal a' w')(hQp:∀c a w,¬Q (.panic c) a w)
  (hsel:Region.noSelect ops=true):
  ∀(f:Nat) (listed:Array Bool) (t:OT) {S:St} {g:Gh} {a:Act} {w:World},yH ops listed→okT ops f listed t=true→xf P ops K t S→SR E S g a w→wpX P ops Q f listed a w
 |0,listed,.now _ _ _,S,g,a,w,hcl,hok,h,hS=>by cases hok
 |0,listed,.mk l,S,g,a,w,hcl,hok,h,hS=>by
  simp only[okT,Bool.and_eq_true,List.isEmpty_iff]at hok
  obtain⟨rfl,hr⟩:=hok
  exact⟨hr,hQ S g a w (by simpa only[xf]using h) hS⟩
 |f+1,listed,.mk l,S,g,a,w,hcl,hok,h,hS=>by
  simp only[okT,Bool.and_eq_true,beq_iff_eq,List.all_eq_true]at hok
  obtain⟨hr,hall⟩:=hok
  refine⟨fun hn=>?_,fun i hi=>?_⟩
  ·have hl:l=[]:=by rw[hn]at hr;simpa using hr
   subst hl
   exact hQ S g a w (by simpa only[xf]using h) hS
  ·have hcl':=hcl.set hi
   rw[←hr,List.mem_map]at hi
   obtain⟨⟨j,t⟩,hm,rfl⟩:=hi
   have h':xI P ops K l S:=by
    cases l with
    |nil=>cases hm
    |cons x l=>simpa only[xf]using h
   obtain⟨o,c,ho,hd,hg,hst⟩:=KU h' hm
   exact Yw (P:=P) hS ho hg hd hst (fun S' g' a' w' hk hs=>uJ hQ hQp hsel f _ t hcl' (hall _ hm) hk hs)
 |f+1,listed,.now i c t,S,g,a,w,hcl,hok,h,hS=>by
  simp only[okT,Bool.and_eq_true]at hok
  obtain⟨⟨hr,he⟩,hok⟩:=hok
  have hri:i∈Region.ready .any ops listed:=by simpa using hr
  unfold zaz at he
  split at he
  ·rename_i oi hio
   simp only[Bool.and_eq_true,Option.isNone_iff_eq_none]at he
   obtain⟨⟨hgu,hpi⟩,hcomp⟩:=he
   simp only[xf,Xr,hio]at h
   unfold zc7 at h
   split at h
   ·rename_i r hp
    obtain⟨⟨h1,h2⟩,h3,h4⟩:=h
    have hwt:Region.wanted oi (yielded ops a.tmps)=true:=by unfold Region.wanted;rw[hgu]
    have hval:∃v,YieldsIf P ops (Js c w) oi v a∧za g w r.2 v:=by
     unfold zaQ at h3
     split at h3
     ·obtain⟨v,hv,hrep⟩:=qC hS hp h1
      exact⟨v,.inl ⟨hwt,fun w' hw'=>by cases hw';exact hv⟩,hrep⟩
     ·by_cases hin:yG S oi r.2=true
      ·obtain⟨v,hv,hrep⟩:=kh hS hp h1 hin
       exact⟨v,.inl ⟨hwt,fun w' _=>hv w'⟩,hrep⟩
      ·obtain⟨v,hv,hrep⟩:=qC hS hp h1
       refine⟨v,.inl ⟨hwt,fun w' hw'=>?_⟩,hrep⟩
       obtain⟨l,rfl⟩:=hw'
       by_cases hld:yK oi=true
       ·obtain⟨dst,op,tt,pos,after,guard⟩:=oi
        unfold yK at hld
        cases op with
        |load t x=>
         simp only[qE,Option.some.injEq]at hp
         subst hp
         have hx:=zp h1.1 (hS.ev x)
         obtain⟨u,hu,_⟩:=kl hS h1.2 hx
         have e1:(execOp a.eval ⟨dst,.load t x,tt,pos,after,guard⟩).run P w=.ok (.value u) w:=zM hu
         rw[e1]at hv
         injection hv with hv _
         injection hv with hv
         subst hv
         exact zM (WO hS h1.2 hx hu (wM l w).2)
        |_=>cases hld
       ·have hdet:Vk r.2=true:=by
         simp only[Bool.or_eq_true]at h3
         exact(h3.resolve_left hin).resolve_left hld
        obtain⟨v',hv',hrep'⟩:=qC (SR.grows l hS) hp h1
        rw[x0 hS.ur hrep hrep' hdet]
        exact hv'
     ·obtain⟨v,hv,hrep⟩:=kh hS hp h1 h3
      exact⟨v,.inl ⟨hwt,fun w' _=>hv w'⟩,hrep⟩
    obtain⟨v,hy,hrep⟩:=hval
    refine KQ (w0:=w) (c:=c) hio (Region.noSelect_spec hsel) hpi hQp f listed a w hcl ?_ hri hy (K9 c w) (uJ hQ hQp hsel f _ t (hcl.set hri) hok h4 (hS.qg hrep h2))
    intro j oj hj hji hun
    have hj':j<ops.size:=(Array.getElem?_eq_some_iff.1 hj).1
    have hx:=List.all_eq_true.1 hcomp j (List.mem_range.2 hj')
    simp only[hj,Bool.or_eq_true,beq_iff_eq,hji,hun,Bool.false_eq_true,false_or,Bool.and_eq_true]at hx
    rcases hx with (hx|hx)|hx
    ·exact .inl hx
    ·exact .inr (.inl (by simpa using hx))
    ·exact .inr (.inr (by simpa using hx))
   ·exact h.elim
  ·cases he
theorem zeI [Gi] {P:Program} {ops:Array Oper} {Q:Exit→Act→World→Prop} {E:Ent} {K:St→Prop}(hQ:∀S' g' a' w',K S'→SR E S' g' a' w'→Q .normal a' w')(hQp:∀c a w,¬Q (.panic c) a w)(hsel:Region.noSelect ops=true) {t:OT} {S:St} {g:Gh} {a:Act} {w:World}
  (hok:okT ops ops.size (Array.replicate ops.size false) t=true) (h:xf P ops K t S) (hS:SR E S g a w):wpAny P .any ops Q ops.size (Array.replicate ops.size false) a w:=
 wP _ _ _ _ (uJ hQ hQp hsel _ _ t (fun j oj _ hl=>by rw[getD_replicate_false]at hl;cases hl) hok h hS)
theorem qL.tree [Gi] {P:Program} {E:Ent} {Q:Exit→St→Prop} {S:St} {id:Nat} {l:List Oper}(hm:P.follows .mixedOrders=true)(t:OT)(hok:(Region.noSelect l.toArray&&okT l.toArray l.toArray.size (Array.replicate l.toArray.size false) t)=true)
  (h:xf P l.toArray (Q .normal) t {S with ts:=[]}):qL P E (.region id l.toArray true) Q S:=fun g a w hS=>by
 simp only[Bool.and_eq_true]at hok
 have hw1:SR E {S with ts:=[]} g a {w with drawn:=w.drawn+1}:=hS.clean.drew
 refine wp_mono (wp_region_any hm (zeI (Q:=fun e a w=>e=.normal∧∃S' g',Q .normal S'∧SR E S' g' a w) (fun S' g' a' w' k s=>⟨rfl,S',g',k,s⟩) (fun c a w hq=>by cases hq.1) hok.1 hok.2 h hw1)) ?_
 rintro e a' w' ⟨rfl,S',g',hq,hs⟩
 exact⟨S',g',hq,hs⟩
section
variable {P:Program} {S:St}
def zfp [Gi](P:Program)(ops:Array Oper)(S:St)(K:St→Prop):Option Oper→Prop
 |some o=>Uc (qE P S o) (XA o)∧kF P S o K (zY ops S o)
 |none=>False
def zel [Gi](P:Program)(ops:Array Oper)(K:St→Prop)(t:OT):St→Prop:=fun S=>xf P ops K t S
@[go_sem] theorem zjJ [Gi] {ops : Array Oper} {K : St → Prop} {t : OT} : zel P ops K t S = xf P ops K t S := _root_.id rfl
@[go_sem] theorem zka [Gi] {ops : Array Oper} {K : St → Prop} {i c : Nat} {t : OT} : xf P ops K (.now i c t) S = Xr P S c (zel P ops K t) ops[i]? := by simp only [xf]; rfl
@[go_sem] theorem zkA [Gi] {ops : Array Oper} {K : St → Prop} : xf P ops K (.mk []) S = K S := by simp only [xf]
@[go_sem] theorem zju [Gi] {ops : Array Oper} {K : St → Prop} {x : Nat × OT} {l : List (Nat × OT)} : xf P ops K (.mk (x :: l)) S = xI P ops K (x :: l) S := by simp only [xf]
@[go_sem] theorem zjr [Gi] {ops : Array Oper} {K : St → Prop} : xI P ops K [] S = True := by simp only [xI]
@[go_sem] theorem zi1 [Gi] {ops : Array Oper} {K : St → Prop} {i : Nat} {t : OT} {l : List (Nat × OT)} : xI P ops K ((i, t) :: l) S = (zfp P ops S (zel P ops K t) ops[i]? ∧ xI P ops K l S) := by
 simp only[xI]
 cases ops[i]? with
 |none=>rfl
 |some o=>simp only[zfp,kF];cases zY ops S o<;>rfl
@[go_sem] theorem zio [Gi] {ops : Array Oper} {K : St → Prop} {o : Oper} : zfp P ops S K (some o) = (Uc (qE P S o) (XA o) ∧ kF P S o K (zY ops S o)) := rfl
end
attribute [go_sem] XA
end
section
open Go.ChangeShapes Go.RowKit
def Yes:AV→List (Tok×List AV)→Prop:=fun x rs=>rs=[]∧x=.p (.bool true)
theorem Value.cells_one {v:Value}(h:v.oneCell'=true):v.cells.toList=[v]:=by
 cases v<;>simp_all [Value.oneCell',Value.cells]
theorem zd2 {P:Program} {w:World} {r:Reach} {base:Nat} {t:TypeId} {v:Value}(h:Cell.okWide P w r base t v):v.oneCell'=true:=by
 unfold Cell.okWide at h
 split at h<;>try rfl
 all_goals unfold Cell.ok at h;split at h<;>first|rfl|exact h.elim
theorem Y2 {P:Program} {w:World} {r:Reach} {base:Nat} {t:TypeId} {v:Value}(h:Value.okWide P w r base t v)(hf:(match P.underlying t with|some (.struct _)=>false|some (.array _ _)=>false|_=>true)=true):v.oneCell'=true:=by
 unfold Value.okWide at h
 split at h
 ·rename_i e;rw[e]at hf;cases hf
 ·rename_i e;rw[e]at hf;cases hf
 ·exact zd2 h
section
variable {H:Type} {enc:TypeId×Value→H} {P:Program}
def zhw(enc:TypeId×Value→H)(P:Program)(t:TypeId)(Q:PV→Prop):Prop:=
 ∀(W:World) (base:Nat) (v:Value) (d:DataW H) (p:List MemPlace),Value.okWide P W .any base t v→DataW.Trod enc P W 0 (fun _=>true) true t v d p→∃x,Q x∧zi (frW W) W x v
theorem yC {t:TypeId} {Q:PV→Prop}(hf:(match P.underlying t with|some (.struct _)=>false|some (.array _ _)=>false|_=>true)=true)(h:∀W,kK enc P W 0 (fun _=>true) true t fun xs=>∃x,xs=[x]∧Q x):zhw enc P t Q:=by
 intro W base v d p ho ht
 obtain⟨fuel,ht⟩:=ht
 obtain⟨xs,⟨x,rfl,q⟩,r⟩:=h W _ _ _ ht
 have h1:=Y2 ho hf
 rw[Value.cells_one h1]at r
 simp only[zr]at r
 obtain⟨v',vs',e,_,r,_⟩:=r
 injection e with e;subst e
 exact⟨x,q,r⟩
def Jp(enc:TypeId×Value→H)(P:Program):List TypeId→List (PV→Prop)→Prop
 | [],[]=>True
 |t::ts,Q::Qs=>zhw enc P t Q∧Jp enc P ts Qs
 |_,_=>False
def zh6:List (PV→Prop)→List PV→Prop
 | [],[]=>True
 |Q::Qs,x::xs=>Q x∧zh6 Qs xs
 |_,_=>False
theorem KY {W:World} {base:Nat} {g:Gh}(hg:g.fr=frW W):∀{ts:List TypeId} {Qs:List (PV→Prop)} {vs:List Value} {ds:List (DataW H)} {p:List MemPlace},Jp enc P ts Qs→
  (∀(j:Nat) t v,ts[j]?=some t→vs[j]?=some v→Value.okWide P W .any base t v)→DataW.TrodAll enc P W 0 (fun _=>true) true ts vs ds p→∃xs,zh6 Qs xs∧zm g W (xs.map .p) vs
 | [],[],[],_,_,_,_,_=>⟨[],trivial,by simp[zm]⟩
 | [],[],_::_,_,_,_,_,h=>h.elim
 | [],_::_,_,_,_,h,_,_=>h.elim
 |_::_,[],_,_,_,h,_,_=>h.elim
 |_::_,_::_,[],_,_,_,_,h=>by simp[DataW.TrodAll]at h
 |_::_,_::_,_::_,[],_,_,_,h=>by simp[DataW.TrodAll]at h
 |t::ts,Q::Qs,v::vs,d::ds,p,ha,ho,h=>by
  obtain⟨p',q',h1,h2,rfl⟩:=h
  obtain⟨x,qx,rx⟩:=ha.1 W base v d p' (ho 0 t v rfl rfl) h1
  obtain⟨xs,qs,rs⟩:=KY hg ha.2 (fun j t' v' e1 e2=>ho (j+1) t' v' e1 e2) h2
  refine⟨x::xs,⟨qx,qs⟩,?_⟩
  simp only[List.map_cons,zm]
  exact⟨v,vs,rfl,by simp only[za];rw[hg];exact rx,rs⟩
theorem wE(hl:laidOutB P=true) {W W':World} {sp:Nat→Bool}(hb:Below W.heap.size W W'):∀{ts:List TypeId} {vs:List Value} {ds:List (DataW H)} {p:List MemPlace},ts.all (fun t=>P.readableRec t&&decide (t<P.types.size))=true→
  DataW.TrodAll enc P W 0 (fun _=>true) true ts vs ds p→(∀x∈p,x.block<W.heap.size∧sp x.block=true)→DataW.TrodAll enc P W' 0 sp true ts vs ds p
 | [],[],[],_,_,h,_=>h
 | [],[],_::_,_,_,h,_=>h.elim
 | [],_::_,_,_,_,h,_=>h.elim
 |_::_,[],_,_,_,h,_=>h.elim
 |_::_,_::_,[],_,_,h,_=>h.elim
 |t::ts,v::vs,d::ds,p,hr,h,hlt=>by
  obtain⟨p',q',h1,h2,rfl⟩:=h
  simp only[List.all_cons,Bool.and_eq_true,decide_eq_true_eq]at hr
  refine⟨p',q',WideElems.Trod_stays hl hr.1.1 hr.1.2 h1 (fun x hx=>hb.same (hlt x (by simp[hx])).1) (fun x hx=>(hlt x (by simp[hx])).2),wE hl hb hr.2 h2 (fun x hx=>hlt x (by simp[hx])),rfl⟩
theorem zfH {f:Func} {s:ChangeSpec} {apart fresh handsOn again:Bool} {W W':World} {args:Array Value} {ds gs:List (DataW H)} {before:List MemPlace} {tb:TypeId}
  (hl:laidOutB P=true) (hb:Below W.heap.size W W') (hW:DataW.Whole enc P f.params.toList s.vars apart W args.toList ds gs before) (hv:s.vars=[]) (hgs:gs=[])
  (hr:f.params.toList.all (fun t=>P.readableRec t&&decide (t<P.types.size))=true) (ht:f.resultTypes= #[tb]) (hbo:P.underlying tb=some .bool)
  (h1:(s.fn H (ds++gs)).results=[.lit (.bool true)]) (h2:(s.fn H (ds++gs)).args=ds) (h3:(s.fn H (ds++gs)).vars=[]):
  s.post enc P f apart fresh handsOn again W args (.bool true) W':=by
 have hlt:∀x∈before,x.block<W.heap.size:=fun p hp=>by simpa using hW.lt p hp
 have hW':=hW
 obtain⟨p,q,hA,hV,rfl,hz,hn⟩:=hW
 have hq:q=[]:=by
  rw[hv,hgs]at hV
  exact hV
 subst hq
 have hres:∀(b:Nat) (sp:Nat→Bool) (hd:Bool),DataW.TrodAll enc P W' b sp hd f.resultTypes.toList ((Value.bool true).resultList f.resultTypes.size) [.lit (.bool true)] []:=by
  intro b sp hd
  rw[ht]
  show DataW.TrodAll enc P W' b sp hd [tb] [.bool true] _ _
  exact⟨[],[],shut_bool hbo true,rfl,rfl⟩
 have hargs:∀sp:Nat→Bool,(∀x∈p++[],sp x.block=true)→DataW.TrodAll enc P W' 0 sp true f.params.toList args.toList ds p:=fun sp hsp=>
  wE hl hb hr hA (fun x hx=>⟨hlt x (by simp[hx]),hsp x (by simp[hx])⟩)
 refine⟨ds,gs,p++[],[],p,[],hW',?_,?_,?_,hb.frame _,fun _=>⟨?_,?_⟩⟩
 ·rw[h1];exact hres _ _ _
 ·rw[h2];exact hargs _ fun x hx=>by simpa using hlt x hx
 ·rw[h3,hv];exact rfl
 ·intro j t' r hj hvj
  rw[ht]at hj hvj
  match j,hj,hvj with
  |0,hj,hvj=>
   simp[Value.resultList]at hj hvj
   subst hj;subst hvj
   simp[Value.okWide,hbo,Cell.okWide,Cell.ok]
  |j+1,hj,_=>simp at hj
 ·refine⟨_,_,([]++p)++[],⟨[]++p,[],trodAll_append (hargs _ (fun _ _=>rfl)) (hres _ _ _),(by rw[hv];exact rfl:DataW.TrodVars enc P W' (fun _=>true) s.vars [] []),rfl,?_,?_⟩,?_⟩
  ·intro b off hp
   rw[hb.frozen (hlt _ (by simpa using hp))]
   exact hz b off (by simpa using hp)
  ·intro ha
   simpa using hn ha
  ·intro x hx _
   simpa using hx
theorem WN [Gi] {C:Checked} {fn:Func} {n:FuncId} {s:ChangeSpec} {apart fresh handsOn again:Bool} {Qs:List (PV→Prop)} {tb:TypeId}(hl:laidOutB C.prog=true)(hv:s.vars=[])
  (hr:fn.params.toList.all (fun t=>C.prog.readableRec t&&decide (t<C.prog.types.size))=true) (ht:fn.resultTypes= #[tb]) (hbo:C.prog.underlying tb=some .bool)
  (hs:∀ds:List (DataW H),ds.length=fn.params.size→s.fn H ds={results:=[.lit (.bool true)],args:=ds})
  (hQ:Jp enc C.prog fn.params.toList Qs) (hC:∀xs,zh6 Qs xs→CR C.prog n [] (xs.map .p) [] Yes)
  (W:World) (base:Nat) (args:Array Value) (ds gs:List (DataW H)) (before:List MemPlace)
  (hval:∀(j:Nat) t v,fn.params[j]?=some t→args[j]?=some v→Value.okWide C.prog W .any base t v)
  (hW:DataW.Whole enc C.prog fn.params.toList s.vars apart W args.toList ds gs before) (hgl:ve ⟨frW W,fun _=>.prot⟩ W):
  Calls C.prog n args W fun e W'=>∃v,e=.returned v∧s.post enc C.prog fn apart fresh handsOn again W args v W':=by
 have hW0:=hW
 obtain⟨p,q,hA,hV,_,_,_⟩:=hW
 have hgs:gs=[]:=by
  rw[hv]at hV
  cases gs with
  |nil=>rfl
  |cons _ _=>exact hV.elim
 obtain⟨xs,qx,rx⟩:=KY (g:=⟨frW W,fun _=>.prot⟩) rfl hQ (fun j t v e1 e2=>hval j t v (by simpa using e1) (by simpa using e2)) hA
 have hG:GS ⟨frW W,fun _=>.prot⟩ W []:=by
  refine⟨fun b t h=>?_,fun b b' t h=>?_,fun b b' t h=>?_,fun b h=>absurd rfl h,fun b hb=>?_,hgl⟩
  ·cases h
  ·cases h
  ·cases h
  ·show frW W b=0
   have hb':W.heap[b]?=none:=by simpa using hb
   unfold frW
   rw[hb']
 have hc:=hC xs qx W _ _ rx hG
 rw[Array.toArray_toList]at hc
 refine hc.mono ?_
 rintro e W' ⟨v,x,rs',g',rfl,⟨rfl,rfl⟩,r,_,hAft⟩
 simp only[za,zi]at r
 subst r
 have hB:Below W.heap.size W W':=⟨hAft.out.1,hAft.out.2.1,hAft.out.2.2,hAft.mono,fun k hk=>(hAft.frame k hk rfl).1⟩
 have hlen:ds.length=fn.params.size:=by
  have:∀{ts:List TypeId} {vs:List Value} {ds:List (DataW H)} {p:List MemPlace},DataW.TrodAll enc C.prog W 0 (fun _=>true) true ts vs ds p→ds.length=ts.length:=by
   intro ts
   induction ts with
   |nil=>intro vs ds p h;cases vs<;>cases ds<;>simp_all [DataW.TrodAll]
   |cons t ts ih=>
    intro vs ds p h
    cases vs<;>cases ds<;>simp_all [DataW.TrodAll]
    obtain⟨_,_,_,h2,_⟩:=h
    exact ih h2
  simpa using this hA
 exact⟨_,rfl,zfH hl hB hW0 hv hgs hr ht hbo (by rw[hgs,List.append_nil,hs ds hlen]) (by rw[hgs,List.append_nil,hs ds hlen]) (by rw[hgs,List.append_nil,hs ds hlen])⟩
end
end
section
def zhC {ι:Type}(k:Nat)(S:St)(inv:ι→Prop)(V:ι→List (Nat×AV))(R:ι→List (Tok×List AV))(Q:Exit→St→Prop):Exit→St→Prop:=fun e S'=>match e with
 |.exit j=>if j=k then ∃i ts,inv i∧S'=S.UC (V i) (R i) ts else Q (.exit j) S'
 |e=>Q e S'
theorem ZY {ι:Type} {k:Nat} {S:St} {inv:ι→Prop} {V:ι→List (Nat×AV)} {R:ι→List (Tok×List AV)} {Q:Exit→St→Prop} {S':St}(i:ι)(hi:inv i)(h:S'=S.UC (V i) (R i) S'.ts):zhC k S inv V R Q (.exit k) S':=by
 show(if k=k then _ else _)
 rw[if_pos rfl]
 exact⟨i,_,hi,h⟩
theorem xU [Gi] {P:Program} {D:List Nat} {c:Code} {Q:Exit→St→Prop} {S:St} {ι:Type}(k:Nat)(inv:ι→Prop)(V:ι→List (Nat×AV))(R:ι→List (Tok×List AV))(h:wpA P D c (zhC k S inv V R Q) S)
  (hr:∀i ts,inv i→Q (.exit k) (S.UC (V i) (R i) ts)):wpA P D c Q S:=by
 refine Qi c (fun e S' h=>?_) h
 cases e with
 |exit j=>
  have h':if j=k then ∃i ts,inv i∧S'=S.UC (V i) (R i) ts else Q (.exit j) S':=h
  split at h'
  ·rename_i e
   subst e
   obtain⟨i,ts,hi,rfl⟩:=h'
   exact hr i ts hi
  ·exact h'
 |_=>exact h
end
end Go.AM
namespace Go.Proofs.YtfjdbbpimklecaaGreatDoor
section
open Go.AM
structure Trm where
 l:zQ
 r:Int
 c:Int
 f:Bool
 b:Int
def ki(R C r:Nat)(cs:zQ)(g:zQ):Nat→zQ
 |0=>g
 |k+1=>if 0< (cs.getD k blk).w∧cs.getD k blk≠blk then Qx R C r k (cs.getD k blk) (ki R C r cs g k)else ki R C r cs g k
def upG(R C:Nat)(l:zQ):Nat→zQ
 |0=>List.replicate (R*C) blk
 |k+1=>ki R C k (Qp C l (k+1)) (upG R C l k) C
def yp(R C:Nat)(t:Trm):Trm:=if t.r+1<R then {t with r:=t.r+1}else {t with r:=(R:Int)-1,l:=upG R C t.l (R-1)}
def vI(R C:Nat)(t:Trm)(w:Int):Trm:=if t.f=true∨(C:Int)<t.c+w then {yp R C t with c:=0,f:=false}else t
def jg(R C:Nat)(t:Trm)(g:Cl):Trm:=if(C:Int)≤t.c+g.w then {t with l:=Qx R C t.r t.c g t.l,c:=(C:Int)-1,f:=true}else {t with l:=Qx R C t.r t.c g t.l,c:=t.c+g.w}
def jz(R C:Nat)(t:Trm)(g:Cl):Trm:=jg R C (vI R C t g.w) g
def QU(R C:Nat)(t:Trm)(r c:Int):Trm:={t with r:=max (min r ((R:Int)-1)) 0,c:=max (min c ((C:Int)-1)) 0,f:=false}
def Zj(R C:Nat):Trm:=⟨List.replicate (R*C) blk,0,0,false,0⟩
structure qH(R C:Nat)(B:Int)(t:Trm):Prop where
 hl:t.l.length=R*C
 ho:OkR t.l
 hr:0≤t.r∧t.r<R
 hc:0≤t.c∧t.c<C
 hb:0≤t.b∧t.b≤B
theorem zbj(R C r:Nat)(cs g:zQ)(k:Nat):ki R C r cs g (k+1)=if 0< (cs.getD k blk).w∧cs.getD k blk≠blk then Qx R C r k (cs.getD k blk) (ki R C r cs g k)else ki R C r cs g k:=rfl
theorem yg(R C r:Nat)(cs g:zQ):∀k,(ki R C r cs g k).length=g.length
 |0=>rfl
 |k+1=>by
  unfold ki
  split
  ·rw[Wo,yg R C r cs g k]
  ·exact yg R C r cs g k
theorem uj(R C r:Nat)(cs g:zQ)(hl:g.length=R*C)(h:OkR g):∀k,OkR (ki R C r cs g k)
 |0=>h
 |k+1=>by
  unfold ki
  split
  ·exact V5 _ _ _ _ _ _ (by rw[yg,hl]) (uj R C r cs g hl h k)
  ·exact uj R C r cs g hl h k
theorem Wf(n:Nat):OkR (List.replicate n blk):=fun c x hx=>by
 have:x=blk:=List.eq_of_mem_replicate (List.mem_of_getElem? hx)
 rw[this];simp[blk]
theorem Vu(R C:Nat)(l:zQ):∀k,(upG R C l k).length=R*C
 |0=>by simp[upG]
 |k+1=>by rw[upG,yg,Vu R C l k]
theorem za0(R C:Nat)(l:zQ):∀k,OkR (upG R C l k)
 |0=>Wf _
 |k+1=>uj _ _ _ _ _ (Vu R C l k) (za0 R C l k) C
section
variable {R C:Nat} {B:Int} {t:Trm}
theorem qH.feed(h:qH R C B t):qH R C B (yp R C t):=by
 have h1:=h.hr
 unfold yp
 split
 ·exact⟨h.hl,h.ho,by simp only;omega,h.hc,h.hb⟩
 ·exact⟨Vu _ _ _ _,za0 _ _ _ _,by simp only;omega,h.hc,h.hb⟩
theorem qH.wrap(h:qH R C B t)(hC:2≤C)(w:Int):qH R C B (vI R C t w):=by
 unfold vI
 split
 ·exact⟨h.feed.hl,h.feed.ho,h.feed.hr,by simp only;omega,h.feed.hb⟩
 ·exact h
theorem qH.put(h:qH R C B t)(g:Cl)(hg:0≤g.w):qH R C B (jg R C t g):=by
 have h1:=h.hc
 unfold jg
 split
 ·exact⟨by simp only;rw[Wo,h.hl],V5 _ _ _ _ _ _ h.hl h.ho,h.hr,by simp only;omega,h.hb⟩
 ·exact⟨by simp only;rw[Wo,h.hl],V5 _ _ _ _ _ _ h.hl h.ho,h.hr,by simp only;omega,h.hb⟩
theorem qH.show(h:qH R C B t)(hC:2≤C)(g:Cl)(hg:0≤g.w):qH R C B (jz R C t g):=(h.wrap hC g.w).put g hg
theorem qH.goes(h:qH R C B t)(r c:Int):qH R C B (QU R C t r c):=by
 have h1:=h.hr
 have h2:=h.hc
 exact⟨h.hl,h.ho,by simp only[QU];omega,by simp only[QU];omega,h.hb⟩
theorem qH.zbE(hC:2≤C):∀(l:List Cl) (t:Trm),qH R C B t→(∀g∈l,0≤g.w)→qH R C B (l.foldl (jz R C) t)
 | [],_,h,_=>h
 |g::l,t,h,hg=>qH.zbE hC l _ (h.show hC g (hg g (by simp))) fun x hx=>hg x (by simp[hx])
end
end
end Go.Proofs.YtfjdbbpimklecaaGreatDoor
namespace Go.AM
section
def zaS(a:Nat):Nat→Nat→(Nat→List AV)→List (Tok×List AV)
 |_,0,_=>[]
 |k,n+1,f=>([a,k],f k)::zaS a (k+1) n f
def fam(a n:Nat)(f:Nat→List AV):List (Tok×List AV):=zaS a 0 n f
def zcu(a b:Nat):Nat→Nat→List (Tok×Tok)
 |_,0=>[]
 |k,n+1=>([a,k],[b,k])::zcu a b (k+1) n
def zgI(a b n:Nat):List (Tok×Tok):=zcu a b 0 n
def laK(a z m:Nat):Nat→Nat→List AV
 |_,0=>[]
 |k,n+1=>.la [a,k] z 0 m::laK a z m (k+1) n
def laF(a z m n:Nat):List AV:=laK a z m 0 n
def inF(a k n:Nat):Tok→Bool
 | [b,i]=>b==a&&decide (k≤i)&&decide (i<k+n)
 |_=>false
theorem zen(a k:Nat)(t:Tok):inF a k 0 t=false:=by
 unfold inF
 split
 ·rename_i b i
  by_cases h:k≤i
  ·simp[h]
  ·simp[h]
 ·rfl
theorem zf9(a k n:Nat)(t:Tok):inF a k (n+1) t=(t== [a,k] || inF a (k+1) n t):=by
 unfold inF
 split
 ·rename_i b i
  by_cases hb:b=a
  ·subst hb
   by_cases hi:i=k
   ·subst hi;simp
   ·have:([b,i]== [b,k])=false:=by simp[hi]
    rw[this]
    simp
    rw[show decide (k≤i)=decide (k+1≤i)from decide_eq_decide.2 (by omega),show k+(n+1)=k+1+n by omega]
  ·have h3:(b==a)=false:=by simpa using hb
   simp[h3]
 ·rename_i hno
  have:(t== [a,k])=false:=by
   simp only[beq_eq_false_iff_ne,ne_eq]
   intro e;exact hno _ _ e
  simp[this]
def noF:Tok→Nat
 | [_,i]=>i
 |_=>0
theorem XY {a:Nat} {f:Nat→List AV} {g:List AV→List AV}:∀{n k:Nat},(zaS a k n f).map (fun x=>(x.1,g x.2))=zaS a k n fun i=>g (f i)
 |0,k=>rfl
 |n+1,k=>by simp only[zaS,List.map_cons,XY]
@[go_sem] theorem zhf {a n : Nat} {f : Nat → List AV} {h : AV → AV} : (fam a n f).map (fun x => (x.1, List.map h x.2)) = fam a n fun i => (f i).map h := XY (g := fun l => l.map h)
theorem KZ {a b:Nat} {t:Tok}:∀{n k:Nat},inM (zcu a b k n) t=if inF b k n t then some [a,noF t]else none
 |0,k=>by rw[zen];rfl
 |n+1,k=>by
  rw[zf9]
  simp only[zcu,inM,KZ]
  by_cases h:[b,k]=t
  ·subst h;simp[noF]
  ·have h2:(t== [b,k])=false:=by simp only[beq_eq_false_iff_ne,ne_eq];exact fun e=>h e.symm
   rw[if_neg h,h2];simp
theorem zaf {a b n:Nat} {t:Tok}:inM (zgI a b n) t=if inF b 0 n t then some [a,noF t]else none:=KZ
theorem zbZ {a b z m:Nat} {h:AV→AV}:∀{n k:Nat},(∀i,k≤i→i<k+n→h (.la [a,i] z 0 m)=.la [b,i] z 0 m)→(laK a z m k n).map h=laK b z m k n
 |0,k,_=>rfl
 |n+1,k,hh=>by
  simp only[laK,List.map_cons,hh k (by omega) (by omega)]
  rw[zbZ fun i h1 h2=>hh i (by omega) (by omega)]
theorem zgK {a b z m n:Nat} {h:AV→AV}(hh:∀i,i<n→h (.la [a,i] z 0 m)=.la [b,i] z 0 m):(laF a z m n).map h=laF b z m n:=zbZ fun i _ h2=>hh i (by omega)
theorem zgd {a z m n:Nat} {rt tt:Tok→Bool}(h:∀i,i<n→rt [a,i]=true):(laF a z m n).map (AV.upd (AM.fil rt tt))=laF a z m n:=zgK fun i hi=>by simp[AV.upd,AM.fil,ZS,h i hi]
end
end Go.AM
