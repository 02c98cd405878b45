/- A part of the proof of this seat's statements, by an abstract machine: what each operation does to values, and what the law's functions compute. Conditions: as each law says. -/
import Derived.Test.YtcgfdhdcihmeeaaGreatT16
import Derived.OpenVars
section
namespace Go.AM
open Go.ChangeShapes Go.RowKit
def Yes:AV→List (Tok×List AV)→Prop:=fun x rs=>rs=[]∧x=.p (.bool true)
theorem Value.zfE {v:Value}(h:v.oneCell'=true):v.cells.toList=[v]:=by
 cases v<;>simp_all [Value.oneCell',Value.cells]
theorem zhE {P:Program} {w:World} {r:Reach} {base:Nat} {t:TypeId} {v:Value}(h:Cell.okWide P w r base t v):v.oneCell'=true:=by
 unfold Cell.okWide at h
 split at h<;>try rfl
 all_goals unfold Cell.ok at h;split at h<;>first|rfl|exact h.elim
theorem zcI {P:Program} {w:World} {r:Reach} {base:Nat} {t:TypeId} {v:Value}(h:Value.okWide P w r base t v)(hf:(match P.underlying t with|some (.struct _)=>false|some (.array _ _)=>false|_=>true)=true):v.oneCell'=true:=by
 unfold Value.okWide at h
 split at h
 ·rename_i e;rw[e]at hf;cases hf
 ·rename_i e;rw[e]at hf;cases hf
 ·exact zhE h
theorem zdu {P:Program} {w:World} {r:Reach} {base:Nat} {t:TypeId} {v:Value}(h:Value.okWide P w r base t v)(hf:(match P.underlying t with|some (.struct _)=>true|some (.array _ _)=>true|_=>false)=true):∃cs,v=.agg cs:=by
 unfold Value.okWide at h
 split at h
 ·obtain⟨cs,e,_⟩:=h;exact⟨cs,e⟩
 ·obtain⟨cs,e,_⟩:=h;exact⟨cs,e⟩
 ·rename_i h1 h2
  split at hf
  ·rename_i e;exact(h1 _ e).elim
  ·rename_i e;exact(h2 _ _ e).elim
  ·cases hf
section
variable {H:Type} {enc:TypeId×Value→H} {P:Program}
def zhF(enc:TypeId×Value→H)(P:Program)(t:TypeId)(Q:PV→Prop):Prop:=
 ∀(W:World) (base:Nat) (v:Value) (d:DataW H) (p:List MemPlace),Value.okWide P W .any base t v→DataW.Trod enc P W 0 (fun _=>true) true t v d p→∃x,Q x∧zj (frW W) W x v
theorem vG {t:TypeId} {Q:PV→Prop}(hf:(match P.underlying t with|some (.struct _)=>false|some (.array _ _)=>false|_=>true)=true)(h:∀W,xj enc P W 0 (fun _=>true) true t fun xs=>∃x,xs=[x]∧Q x):zhF enc P t Q:=by
 intro W base v d p ho ht
 obtain⟨fuel,ht⟩:=ht
 obtain⟨xs,⟨x,rfl,q⟩,r⟩:=h W _ _ _ ht
 have h1:=zcI ho hf
 rw[Value.zfE h1]at r
 simp only[zr]at r
 obtain⟨v',vs',e,_,r,_⟩:=r
 injection e with e;subst e
 exact⟨x,q,r⟩
theorem zeU {t:TypeId} {Q:List PV→Prop}(hf:(match P.underlying t with|some (.struct _)=>true|some (.array _ _)=>true|_=>false)=true)(h:∀W,xj enc P W 0 (fun _=>true) true t Q):zhF enc P t fun x=>∃xs,x=.agg xs∧Q xs:=by
 intro W base v d p ho ht
 obtain⟨fuel,ht⟩:=ht
 obtain⟨cs,rfl⟩:=zdu ho hf
 obtain⟨xs,q,r⟩:=h W _ _ _ ht
 exact⟨.agg xs,⟨xs,rfl,q⟩,by simp only[zj];exact⟨cs,rfl,by simpa[Value.cells]using r⟩⟩
def zaF(enc:TypeId×Value→H)(P:Program):List TypeId→List (PV→Prop)→Prop
 | [],[]=>True
 |t::ts,Q::Qs=>zhF enc P t Q∧zaF enc P ts Qs
 |_,_=>False
def zlO:List (PV→Prop)→List PV→Prop
 | [],[]=>True
 |Q::Qs,x::xs=>Q x∧zlO Qs xs
 |_,_=>False
theorem Yu {W:World} {base:Nat} {g:Gh}(hg:g.fr=frW W):∀{ts:List TypeId} {Qs:List (PV→Prop)} {vs:List Value} {ds:List (DataW H)} {p:List MemPlace},zaF enc P ts Qs→
  (∀(j:Nat) t v,ts[j]?=some t→vs[j]?=some v→Value.okWide P W .any base t v)→DataW.TrodAll enc P W 0 (fun _=>true) true ts vs ds p→∃xs,zlO Qs xs∧zm g W (xs.map .p) vs
 | [],[],[],_,_,_,_,_=>⟨[],trivial,by simp[zm]⟩
 | [],[],_::_,_,_,_,_,h=>h.elim
 | [],_::_,_,_,_,h,_,_=>h.elim
 |_::_,[],_,_,_,h,_,_=>h.elim
 |_::_,_::_,[],_,_,_,_,h=>by simp[DataW.TrodAll]at h
 |_::_,_::_,_::_,[],_,_,_,h=>by simp[DataW.TrodAll]at h
 |t::ts,Q::Qs,v::vs,d::ds,p,ha,ho,h=>by
  obtain⟨p',q',h1,h2,rfl⟩:=h
  obtain⟨x,qx,rx⟩:=ha.1 W base v d p' (ho 0 t v rfl rfl) h1
  obtain⟨xs,qs,rs⟩:=Yu hg ha.2 (fun j t' v' e1 e2=>ho (j+1) t' v' e1 e2) h2
  refine⟨x::xs,⟨qx,qs⟩,?_⟩
  simp only[List.map_cons,zm]
  exact⟨v,vs,rfl,by simp only[zb];rw[hg];exact rx,rs⟩
theorem ua(hl:laidOutB P=true) {W W':World} {sp:Nat→Bool}(hb:Below W.heap.size W W'):∀{ts:List TypeId} {vs:List Value} {ds:List (DataW H)} {p:List MemPlace},ts.all (fun t=>P.readableRec t&&decide (t<P.types.size))=true→
  DataW.TrodAll enc P W 0 (fun _=>true) true ts vs ds p→(∀x∈p,x.block<W.heap.size∧sp x.block=true)→DataW.TrodAll enc P W' 0 sp true ts vs ds p
 | [],[],[],_,_,h,_=>h
 | [],[],_::_,_,_,h,_=>h.elim
 | [],_::_,_,_,_,h,_=>h.elim
 |_::_,[],_,_,_,h,_=>h.elim
 |_::_,_::_,[],_,_,h,_=>h.elim
 |t::ts,v::vs,d::ds,p,hr,h,hlt=>by
  obtain⟨p',q',h1,h2,rfl⟩:=h
  simp only[List.all_cons,Bool.and_eq_true,decide_eq_true_eq]at hr
  refine⟨p',q',WideElems.Trod_stays hl hr.1.1 hr.1.2 h1 (fun x hx=>hb.same (hlt x (by simp[hx])).1) (fun x hx=>(hlt x (by simp[hx])).2),ua hl hb hr.2 h2 (fun x hx=>hlt x (by simp[hx])),rfl⟩
theorem zik {f:Func} {s:ChangeSpec} {apart fresh handsOn again:Bool} {W W':World} {args:Array Value} {ds gs:List (DataW H)} {before:List MemPlace} {tb:TypeId}
  (hl:laidOutB P=true) (hb:Below W.heap.size W W') (hW:DataW.Whole enc P f.params.toList s.vars apart W args.toList ds gs before) (hv:s.vars=[]) (hgs:gs=[])
  (hr:f.params.toList.all (fun t=>P.readableRec t&&decide (t<P.types.size))=true) (ht:f.resultTypes= #[tb]) (hbo:P.underlying tb=some .bool)
  (h1:(s.fn H (ds++gs)).results=[.lit (.bool true)]) (h2:(s.fn H (ds++gs)).args=ds) (h3:(s.fn H (ds++gs)).vars=[]):
  s.post enc P f apart fresh handsOn again W args (.bool true) W':=by
 have hlt:∀x∈before,x.block<W.heap.size:=fun p hp=>by simpa using hW.lt p hp
 have hW':=hW
 obtain⟨p,q,hA,hV,rfl,hz,hn⟩:=hW
 have hq:q=[]:=by
  rw[hv,hgs]at hV
  exact hV
 subst hq
 have hres:∀(b:Nat) (sp:Nat→Bool) (hd:Bool),DataW.TrodAll enc P W' b sp hd f.resultTypes.toList ((Value.bool true).resultList f.resultTypes.size) [.lit (.bool true)] []:=by
  intro b sp hd
  rw[ht]
  show DataW.TrodAll enc P W' b sp hd [tb] [.bool true] _ _
  exact⟨[],[],shut_bool hbo true,rfl,rfl⟩
 have hargs:∀sp:Nat→Bool,(∀x∈p++[],sp x.block=true)→DataW.TrodAll enc P W' 0 sp true f.params.toList args.toList ds p:=fun sp hsp=>
  ua hl hb hr hA (fun x hx=>⟨hlt x (by simp[hx]),hsp x (by simp[hx])⟩)
 refine⟨ds,gs,p++[],[],p,[],hW',?_,?_,?_,hb.frame _,fun _=>⟨?_,?_⟩⟩
 ·rw[h1];exact hres _ _ _
 ·rw[h2];exact hargs _ fun x hx=>by simpa using hlt x hx
 ·rw[h3,hv];exact rfl
 ·intro j t' r hj hvj
  rw[ht]at hj hvj
  match j,hj,hvj with
  |0,hj,hvj=>
   simp[Value.resultList]at hj hvj
   subst hj;subst hvj
   simp[Value.okWide,hbo,Cell.okWide,Cell.ok]
  |j+1,hj,_=>simp at hj
 ·refine⟨_,_,([]++p)++[],⟨[]++p,[],trodAll_append (hargs _ (fun _ _=>rfl)) (hres _ _ _),(by rw[hv];exact rfl:DataW.TrodVars enc P W' (fun _=>true) s.vars [] []),rfl,?_,?_⟩,?_⟩
  ·intro b off hp
   rw[hb.frozen (hlt _ (by simpa using hp))]
   exact hz b off (by simpa using hp)
  ·intro ha
   simpa using hn ha
  ·intro x hx _
   simpa using hx
theorem UG [Gi] {C:Checked} {fn:Func} {n:FuncId} {s:ChangeSpec} {apart fresh handsOn again:Bool} {Qs:List (PV→Prop)} {tb:TypeId}(hl:laidOutB C.prog=true)(hv:s.vars=[])
  (hr:fn.params.toList.all (fun t=>C.prog.readableRec t&&decide (t<C.prog.types.size))=true) (ht:fn.resultTypes= #[tb]) (hbo:C.prog.underlying tb=some .bool)
  (hs:∀ds:List (DataW H),ds.length=fn.params.size→s.fn H ds={results:=[.lit (.bool true)],args:=ds})
  (hQ:zaF enc C.prog fn.params.toList Qs) (hC:∀xs,zlO Qs xs→CR C.prog n [] (xs.map .p) [] Yes)
  (W:World) (base:Nat) (args:Array Value) (ds gs:List (DataW H)) (before:List MemPlace)
  (hval:∀(j:Nat) t v,fn.params[j]?=some t→args[j]?=some v→Value.okWide C.prog W .any base t v)
  (hW:DataW.Whole enc C.prog fn.params.toList s.vars apart W args.toList ds gs before) (hgl:Xz ⟨frW W,fun _=>.prot⟩ W):
  Calls C.prog n args W fun e W'=>∃v,e=.returned v∧s.post enc C.prog fn apart fresh handsOn again W args v W':=by
 have hW0:=hW
 obtain⟨p,q,hA,hV,_,_,_⟩:=hW
 have hgs:gs=[]:=by
  rw[hv]at hV
  cases gs with
  |nil=>rfl
  |cons _ _=>exact hV.elim
 obtain⟨xs,qx,rx⟩:=Yu (g:=⟨frW W,fun _=>.prot⟩) rfl hQ (fun j t v e1 e2=>hval j t v (by simpa using e1) (by simpa using e2)) hA
 have hG:GS ⟨frW W,fun _=>.prot⟩ W []:=by
  refine⟨fun b t h=>?_,fun b b' t h=>?_,fun b b' t h=>?_,fun b h=>absurd rfl h,fun b hb=>?_,hgl⟩
  ·cases h
  ·cases h
  ·cases h
  ·show frW W b=0
   have hb':W.heap[b]?=none:=by simpa using hb
   unfold frW
   rw[hb']
 have hc:=hC xs qx W _ _ rx hG
 rw[Array.toArray_toList]at hc
 refine hc.mono ?_
 rintro e W' ⟨v,x,rs',g',rfl,⟨rfl,rfl⟩,r,_,hAft⟩
 simp only[zb,zj]at r
 subst r
 have hB:Below W.heap.size W W':=⟨hAft.out.1,hAft.out.2.1,hAft.out.2.2,hAft.mono,fun k hk=>(hAft.frame k hk rfl).1⟩
 have hlen:ds.length=fn.params.size:=by
  have:∀{ts:List TypeId} {vs:List Value} {ds:List (DataW H)} {p:List MemPlace},DataW.TrodAll enc C.prog W 0 (fun _=>true) true ts vs ds p→ds.length=ts.length:=by
   intro ts
   induction ts with
   |nil=>intro vs ds p h;cases vs<;>cases ds<;>simp_all [DataW.TrodAll]
   |cons t ts ih=>
    intro vs ds p h
    cases vs<;>cases ds<;>simp_all [DataW.TrodAll]
    obtain⟨_,_,_,h2,_⟩:=h
    exact ih h2
  simpa using this hA
 exact⟨_,rfl,zik hl hB hW0 hv hgs hr ht hbo (by rw[hgs,List.append_nil,hs ds hlen]) (by rw[hgs,List.append_nil,hs ds hlen]) (by rw[hgs,List.append_nil,hs ds hlen])⟩
end
end Go.AM
end
