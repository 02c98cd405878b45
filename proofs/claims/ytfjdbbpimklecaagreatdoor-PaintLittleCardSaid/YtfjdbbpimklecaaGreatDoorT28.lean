/- A part of this seat's proofs, by an abstract machine. Conditions: each law's. -/
import Derived.Test.YtfjdbbpimklecaaGreatDoorT18
import Derived.Test.YtfjdbbpimklecaaGreatDoorT26
import Derived.StillTail
import Derived.OrdersIn
import Derived.TacticsIn
import Derived.RangeFuncCalls
set_option maxHeartbeats 4000000
set_option maxRecDepth 10000
namespace Go.Proofs.YtfjdbbpimklecaaGreatDoor
section
open Go.AM
def zis(r:Int):Bool:=decide (44032≤r)&&decide (r<55204)
theorem wrap32 {x:Int}(h1: -2147483648≤x)(h2:x≤2147483647):IntKind.i32.wrap x=x:=by
 simp only[IntKind.wrap,IntKind.signed,IntKind.bits]
 simp
 omega
def UL(r:Int):List Int:=
 if(r-44032)%28=0 then [4352+(r-44032)/588,4449+(r-44032)/28%21]else [4352+(r-44032)/588,4449+(r-44032)/28%21,4519+(r-44032)%28]
theorem U8(l:List Int):(l.map fun k=>PV.int .i32 k).flatMap PV.cells=l.map fun k=>PV.int .i32 k:=by
 induction l with
 |nil=>rfl
 |cons k l ih=>simp only[List.map_cons,List.flatMap_cons,ih];rfl
end
end Go.Proofs.YtfjdbbpimklecaaGreatDoor
namespace Go.AM
section
def Qf(r:Option Nat):Fence:={Fence.wide with round:=r}
theorem ziz(r:Option Nat)(P:Program)(m:Machine):m.fenced P (Qf r):=fenced_wide P m
theorem zfp {r:Option Nat} {P:Program} {m m':Machine}:StepsIn (Machine.fenced P (Qf r)) P m m'↔Steps P m m':=
 ⟨StepsIn.steps,fun h=>(StepsIn.of_steps h).mono fun m _=>ziz r P m⟩
theorem Jh {r:Option Nat} {n:Nat} {P:Program} {f:FuncId} {args:Array Value} {w:World} {R:Ending→World→Prop}(h:Calls P f args w R):CallsIn (Qf r) n P f args w R:=
 (callsIn_wide (n:=n)).2 h
theorem zat {r:Option Nat} {n:Nat} {P:Program} {row:String} {args:Array Value} {w:World} {R:Value→World→Prop}(h:Rows P row args w R):RowsIn (Qf r) n P row args w R:=
 fun c cs _=>let⟨v,w',k,s⟩:=h c cs;⟨v,w',k,zfp.2 s⟩
def Zi(o:Oper):Bool:=match o.op with
 |.defer _=>false
 |_=>true
theorem Vy {o:Oper}(h:Zi o=true):∀c,o.op≠ .defer c:=fun c e=>by unfold Zi at h;rw[e]at h;cases h
section
variable {r:Option Nat} {n:Nat} {P:Program} {Q:Exit→Act→World→Prop}
theorem zmD {o:Oper} {a:Act} {next:Act→World→Prop}(_:¬LetsOut Q):∀{res:Result Next},o.upon P a next Q res→o.uponIn (Qf r) n P a next Q res
 |.ok (.value _) _,h=>h
 |.ok .skip _,h=>h
 |.ok (.defer _) _,h=>h
 |.ok (.enter _ _) _,h=>⟨fun e=>(by cases e),Jh h⟩
 |.ok (.row _ _) _,h=>⟨fun e=>(by cases e),zat h⟩
 |.halt (.panic _) _,h=>h
theorem zaR {o:Oper} {a:Act} {w:World} {next:Act→World→Prop}(hd:Zi o=true)(hQ:¬LetsOut Q)(h:o.wp P a w next Q):o.wpIn (Qf r) n P a w next Q:=by
 unfold Oper.wpIn
 rw[Oper.semAt_eq _ _ _ (Vy hd)]
 exact⟨fun _ _=>trivial,zmD hQ h⟩
theorem zmn {ops:Array Oper} {i:Nat} {K:Act→World→Prop} {a:Act} {w:World}(hd:ops.all Zi=true)(hQ:¬LetsOut Q)(h:wpOp P ops Q i K a w):wpOpIn (Qf r) n P ops Q i K a w:=by
 unfold wpOp at h
 unfold wpOpIn
 cases ho:ops[i]? with
 |none=>simp only[ho]at h⊢;exact h
 |some o=>
  simp only[ho]at h⊢
  have hdo:Zi o=true:=by
   have:=Array.all_eq_true'.1 hd o (Array.mem_of_getElem? ho)
   exact this
  by_cases hw:Region.wanted o (yielded ops a.tmps)=true
  ·rw[if_pos hw]at h⊢
   exact zaR hdo hQ (h.resolve_right fun k=>hQ k.2)
  ·rw[if_neg hw]at h⊢
   exact⟨fun _ _=>trivial,h⟩
theorem Jy {ops:Array Oper} {md:Region.Mode}(hd:ops.all Zi=true)(hQ:¬LetsOut Q):∀(fuel:Nat) (listed:Array Bool) (a:Act) (w:World),wpAny P md ops Q fuel listed a w→wpAnyIn (Qf r) n P md ops Q fuel listed a w
 |0,_,_,_,h=>h
 |fuel+1,_,_,_,h=>⟨h.1,fun i hi=>zmn hd hQ (wpOp_mono (fun a' w' k=>Jy hd hQ fuel _ a' w' k) (h.2 i hi))⟩
theorem xV {ops:Array Oper}(hQ:¬LetsOut Q):∀(l:List Oper) (a:Act) (w:World),l.all Zi=true→wpList P ops Q l a w→wpListIn (Qf r) n P ops Q l a w
 | [],_,_,_,h=>h
 |o::l,a,w,hd,h=>by
  simp only[List.all_cons,Bool.and_eq_true]at hd
  unfold wpList at h
  unfold wpListIn
  split at h
  ·rename_i hw
   rw[if_pos hw]
   exact zaR hd.1 hQ (Oper.wp_mono (fun a' w' k=>xV hQ l a' w' hd.2 k) (h.resolve_right fun k=>hQ k.2))
  ·rename_i hw
   rw[if_neg hw]
   exact⟨fun _ _=>trivial,xV hQ l _ w hd.2 h⟩
theorem zeH {w:World} {a:Act} {l:List Oper}(m:Nat)(hB:Region.lexTailB .any l.toArray m=true)
  (h:wpStill P l.toArray w (fun a'=>wpList P l.toArray Q (l.drop m) a' w) (l.take m) a):wpAny P .any l.toArray Q l.toArray.size (Array.replicate l.toArray.size false) a w:=by
 simp only[Region.lexTailB,Bool.and_eq_true,decide_eq_true_eq]at hB
 obtain⟨⟨⟨⟨hsel,hn⟩,hs⟩,hc⟩,hlex⟩:=hB
 have hn':m<l.length:=by simpa using hn
 have htl:(l.take m).length=m:=by simp;omega
 have hdl:(l.drop m).length=l.toArray.size-m:=by simp
 have inv0:HeadInv .any l.toArray m (Array.replicate l.toArray.size false):=
  ⟨by simp,fun j oj _ hl=>(by rw[getD_replicate_false]at hl;cases hl),fun t _ ht=>getD_in (by simpa using ht) (getD_replicate_false _ _)⟩
 have H:=wpAnyL_lex (md:=.any) (g:=l.toArray.size-m) hsel hs hc hn (l.take m) 0 _ a (fun j hj=>by
  have hj':j<m:=by rw[htl]at hj;exact hj
  simp[hj']) (by simpa using htl) inv0 (by rw[htl];exact hlex) h
 have:=wpAny_of_head (Q':=Q) (g:=l.toArray.size-m) (fun listed a' hL=>by
  have:=wpAny_of_seq (md:=.any) (Q':=Q) (l.drop m) m listed a' w (fun j=>by simp[List.getElem?_drop]) (by rw[hdl];exact hL.1) hL.2
  rwa[hdl]at this) _ _ _ H
 rw[htl,show m+(l.toArray.size-m)=l.toArray.size by omega]at this
 exact this
end
def U2(K:Act→World→Prop):Exit→Act→World→Prop
 |.normal,a,w=>K a w
 |_,_,_=>False
theorem we(K:Act→World→Prop):¬LetsOut (U2 K):=fun⟨_,_,h⟩=>h
def zeP(ops:Array Oper)(draw:Bool):Bool:=
 ops.all Zi&&(!draw || (decide (Zh ops.toList≠ops.size)&&Region.lexTailB .any ops.toList.toArray (Zh ops.toList)))
theorem Xd [Gi] {r:Option Nat} {n:Nat} {P:Program} {id:Nat} {ops:Array Oper} {draw:Bool}(hm:P.follows .mixedOrders=true)(hd:zeP ops draw=true) {E:Ent} {K:St→Prop}
  {S:St} {g:Gh} {a:Act} {w:World} (h:Zu P ops ops.toList S K) (hS:SR E S g a w):(Code.region id ops draw).wpIn (Qf r) n P (U2 fun a' w'=>∃S' g',K S'∧SR E S' g' a' w') a w:=by
 unfold zeP at hd
 simp only[Bool.and_eq_true]at hd
 obtain⟨hnd,hd⟩:=hd
 have hndl:ops.toList.all Zi=true:=by rw[←Array.all_toList]at hnd;exact hnd
 have hQ:∀S' g' a' w',K S'→SR E S' g' a' w'→U2 (fun a' w'=>∃S' g',K S'∧SR E S' g' a' w') .normal a' w':=fun S' g' a' w' k hs=>⟨S',g',k,hs⟩
 cases draw with
 |false=>exact wpIn_region_list (xV (we _) _ _ _ hndl (jE hQ ops.toList h hS))
 |true=>
  simp only[Bool.not_true,Bool.false_or,Bool.and_eq_true,decide_eq_true_eq]at hd
  have hw1:SR E S g a {w with drawn:=w.drawn+1}:=hS.drew
  refine wpIn_region_any hm ?_
  refine Jy hnd (we _) _ _ _ _ ?_
  have e:ops=ops.toList.toArray:=by simp
  rw[e]
  refine zeH (Zh ops.toList) hd.2 ?_
  rw[←e]
  have:=jz (P:=P) (ops:=ops) (K:=K) (ops.toList.drop (Zh ops.toList)) (ops.toList.take (Zh ops.toList)) (yh _) (by rw[List.take_append_drop];exact h) hw1
  have mono:∀(l:List Oper) (a:Act) (F G:Act→Prop),(∀a,F a→G a)→wpStill P ops {w with drawn:=w.drawn+1} F l a→wpStill P ops {w with drawn:=w.drawn+1} G l a:=by
   intro l
   induction l with
   |nil=>intro a F G hFG hh;exact hFG _ hh
   |cons o l ih=>
    intro a F G hFG hh
    unfold wpStill at hh⊢
    split
    ·rename_i hw
     rw[if_pos hw]at hh
     exact Oper.still_mono (fun a h=>ih a F G hFG h) hh
    ·rename_i hw
     rw[if_neg hw]at hh
     exact ih _ F G hFG hh
  exact mono _ _ _ _ (fun a' ⟨S',g',h1,h2⟩=>jE hQ _ h1 h2) this
theorem Yo [Gi] {r:Option Nat} {n:Nat} {P:Program} {id:Nat} {ops:Array Oper}(hm:P.follows .mixedOrders=true)(hd:ops.all Zi=true) {E:Ent} {K:St→Prop}
  {S:St} {g:Gh} {a:Act} {w:World} (h:∃t,(Region.noSelect ops&&okT ops ops.size (Array.replicate ops.size false) t)=true∧kg P ops K t S) (hS:SR E S g a w):(Code.region id ops true).wpIn (Qf r) n P (U2 fun a' w'=>∃S' g',K S'∧SR E S' g' a' w') a w:=by
 obtain⟨t,hok,h⟩:=h
 have hw1:SR E S g a {w with drawn:=w.drawn+1}:=hS.drew
 simp only[Bool.and_eq_true]at hok
 exact wpIn_region_any hm (Jy hd (we _) _ _ _ _ (zb8 (Q:=U2 fun a' w'=>∃S' g',K S'∧SR E S' g' a' w') (fun S' g' a' w' k hs=>⟨S',g',k,hs⟩) (fun c a w hq=>hq) hok.1 hok.2 h hw1))
def QU(D:List Nat):Code→Bool
 |.region id ops draw=>bif draw&&D.contains (id+200000)then ops.all Zi else zeP ops draw&& !(draw&&(D.contains (id+100000) || D.contains id))
 |.seq x y=>QU D x&&QU D y
 |.cond _ x y=>QU D x&&QU D y
 |.block _ c=>QU D c
 |.skip=>true
 |.exit _=>true
 |.ret=>true
 |_=>false
theorem QV {F:Fence} {n:Nat} {P:Program} {c:Code} {K:Act→World→Prop} {Q:Exit→Act→World→Prop} {a:Act} {w:World}(h:c.wpIn F n P (U2 K) a w)(hq:∀a w,K a w→Q .normal a w):c.wpIn F n P Q a w:=
 wpIn_mono h fun e a w k=>match e,k with
  |.normal,k=>hq a w k
theorem jn [Gi] {r:Option Nat} {n:Nat} {P:Program} {D:List Nat}(hm:P.follows .mixedOrders=true) {E:Ent}:∀(c:Code) {Q:Exit→St→Prop} {S:St} {g:Gh} {a:Act} {w:World},QU D c=true→wpA P D c Q S→SR E S g a w→c.wpIn (Qf r) n P (post E Q) a w
 |.skip,Q,S,g,a,w,_,h,hS=>wpIn_skip ⟨S,g,h,hS⟩
 |.region id ops draw,Q,S,g,a,w,hc,h,hS=>by
  simp only[wpA]at h
  by_cases hT:(draw&&D.contains (id+200000))=true
  ·simp only[QU,hT,cond_true]at hc
   rw[if_pos hT]at h
   simp only[Bool.and_eq_true]at hT
   obtain⟨rfl,_⟩:=hT
   obtain⟨t,K',h1,h2,h3⟩:=h
   refine QV (Yo hm hc (K:=K') ⟨t,h1,h2⟩ hS.clean) (fun a w k=>?_)
   obtain⟨S',g',hk,hs⟩:=k
   rcases h3 S' hk with h|⟨S1,hl,h⟩
   ·exact⟨S',g',h,hs⟩
   ·obtain⟨g2,hs2⟩:=hs.leR hl
    exact⟨S1,g2,h,hs2⟩
  rw[if_neg hT]at h
  simp only[QU,Bool.eq_false_iff.2 hT,cond_false,Bool.and_eq_true,Bool.not_eq_true',Bool.and_eq_false_iff,Bool.or_eq_false_iff]at hc
  have h1:(draw&&D.contains (id+100000))=false:=by
   rcases hc.2 with e|e
   ·rw[e];rfl
   ·rw[e.1];exact Bool.and_false _
  have h2:(draw&&D.contains id)=false:=by
   rcases hc.2 with e|e
   ·rw[e];rfl
   ·rw[e.2];exact Bool.and_false _
  rw[h1,h2]at h
  simp only[Bool.false_eq_true,if_false]at h
  exact QV (Xd hm hc.1 (K:=Q .normal) h hS.clean) (fun a w k=>k)
 |.seq x y,Q,S,g,a,w,hc,h,hS=>by
  simp only[QU,Bool.and_eq_true]at hc
  simp only[wpA]at h
  refine wpIn_seq (wpIn_mono (jn hm x hc.1 h hS) ?_)
  rintro e a' w' ⟨S',g',hq,hs⟩
  cases e with
  |normal=>exact jn hm y hc.2 hq hs
  |_=>exact⟨S',g',hq,hs⟩
 |.cond c x y,Q,S,g,a,w,hc,h,hS=>by
  simp only[QU,Bool.and_eq_true]at hc
  simp only[wpA]at h
  have hr:=hS.ev c
  split at h
  ·rename_i b hb
   rw[hb]at hr
   simp only[zb,zl]at hr
   cases b with
   |true=>exact wpIn_cond_true hr (jn hm x hc.1 (h.1 rfl) hS)
   |false=>exact wpIn_cond_false hr (jn hm y hc.2 (h.2 rfl) hS)
  ·exact h.elim
 |.block id c,Q,S,g,a,w,hc,h,hS=>by
  simp only[QU]at hc
  simp only[wpA]at h
  refine wpIn_block (wpIn_mono (jn hm c hc h hS) ?_)
  rintro e a' w' ⟨S',g',hq,hs⟩
  cases e with
  |exit i=>
   simp only[Exit.inBlock]
   simp only[]at hq
   split
   ·rename_i hi;rw[if_pos hi]at hq;exact⟨S',g',hq,hs⟩
   ·rename_i hi;rw[if_neg hi]at hq;exact⟨S',g',hq,hs⟩
  |_=>exact⟨S',g',hq,hs⟩
 |.exit id,Q,S,g,a,w,_,h,hS=>wpIn_exit ⟨S,g,h,hS⟩
 |.ret,Q,S,g,a,w,_,h,hS=>wpIn_ret ⟨S,g,h,hS⟩
 |.loop _,Q,S,g,a,w,hc,_,_=>by cases hc
 |.rangeFunc ..,Q,S,g,a,w,hc,_,_=>by cases hc
 |.scope _,Q,S,g,a,w,hc,_,_=>by cases hc
 |.label _,Q,S,g,a,w,hc,_,_=>by cases hc
 |.goto _,Q,S,g,a,w,hc,_,_=>by cases hc
 |.refuse _,Q,S,g,a,w,hc,_,_=>by cases hc
def j5(ds:List Deferred)(a:Act):Act:={a with defers:=ds}
theorem zay(ds:List Deferred)(a:Act)(d:Option Nat)(v:Value):j5 ds (a.put d v)=(j5 ds a).put d v:=by cases d<;>rfl
theorem Y3(ds:List Deferred)(a:Act)(x:Operand):(j5 ds a).eval x=a.eval x:=by cases x<;>rfl
theorem zj9 [Gi] {r:Option Nat} {n:Nat} {P:Program} {E:Ent} {K:St→Prop} {o:Oper} {a:Act} {w:World} {ds:List Deferred}(hd:Zi o=true)
  (h:o.wp P a w (fun a' w'=>∃S' g',K S'∧SR E S' g' a' w') (fun _ _ _=>False)) (_:a.defers=[]):
  o.wpIn (Qf r) n P (j5 ds a) w (fun a' w'=>∃b,a'=j5 ds b∧∃S' g',K S'∧SR E S' g' b w') (fun _ _ _=>False):=by
 unfold Oper.wpIn
 rw[Oper.semAt_eq _ _ _ (Vy hd)]
 refine⟨fun _ _=>trivial,?_⟩
 unfold Oper.wp at h
 have he:(j5 ds a).eval=a.eval:=funext (Y3 ds a)
 rw[he]
 generalize (execOp a.eval o).run P w=res at h
 have put:∀v w',(∃S' g',K S'∧SR E S' g' (a.put o.dst v) w')→∃b,(j5 ds a).put o.dst v=j5 ds b∧∃S' g',K S'∧SR E S' g' b w':=fun v w' k=>⟨a.put o.dst v,(zay ds a _ v).symm,k⟩
 match res,h with
 |.ok (.value v) w',h=>exact put v w' h
 |.ok .skip w',h=>exact put undef w' h
 |.ok (.defer d) w',h=>
  obtain⟨S',g',_,hs⟩:=h
  have:=hs.defers
  cases hdst:o.dst<;>rw[hdst]at this<;>simp[Act.put]at this
 |.ok (.enter f args) w',h=>
  refine⟨fun e=>(by cases e),Jh (Calls.mono h fun e w'' k=>?_)⟩
  cases e with
  |returned v=>exact put v w'' k
  |panicked c=>exact k
  |outgrown=>exact k
 |.ok (.row row args) w',h=>exact⟨fun e=>(by cases e),zat (Rows.mono h fun v w'' k=>put v w'' k)⟩
 |.halt (.panic v) w',h=>exact h
theorem zaH [Gi] {r:Option Nat} {n:Nat} {P:Program} {ops:Array Oper} {E:Ent} {K:St→Prop} {ds:List Deferred} {Q:Exit→Act→World→Prop}(hQ:∀S' g' a' w',K S'→SR E S' g' a' w'→Q .normal (j5 ds a') w'):
  ∀(l:List Oper) {S:St} {g:Gh} {a:Act} {w:World},l.all Zi=true→Zu P ops l S K→SR E S g a w→wpListIn (Qf r) n P ops Q l (j5 ds a) w
 | [],S,g,a,w,_,h,hS=>hQ _ _ _ _ h hS
 |o::l,S,g,a,w,hd,h,hS=>by
  simp only[List.all_cons,Bool.and_eq_true]at hd
  unfold Zu at h
  cases hc:qj ops S o with
  |none=>simp only[hc]at h
  |some c=>
   simp only[hc]at h
   have:=yH (P:=P) hS hc h (next:=fun a' w'=>∃S' g',Zu P ops l S' K∧SR E S' g' a' w') (Q:=fun _ _ _=>False) (fun S' g' a' w' hk hs=>⟨S',g',hk,hs⟩)
   have hy:yielded ops (j5 ds a).tmps=yielded ops a.tmps:=rfl
   unfold wpListIn
   rw[hy]
   split
   ·rename_i hw
    rw[if_pos hw]at this
    have h1:=zj9 (r:=r) (n:=n) (ds:=ds) hd.1 this hS.defers
    refine⟨h1.1,?_⟩
    have h2:=h1.2
    generalize (o.semAt (Qf r).round (j5 ds a).eval).run P w=res at h2
    have go:∀a' w',(∃b,a'=j5 ds b∧∃S' g',Zu P ops l S' K∧SR E S' g' b w')→wpListIn (Qf r) n P ops Q l a' w':=by
     rintro a' w' ⟨b,rfl,S',g',hk,hs⟩
     exact zaH hQ l hd.2 hk hs
    match res,h2 with
    |.ok (.value v) w',k=>exact go _ _ k
    |.ok .skip w',k=>exact go _ _ k
    |.ok (.defer d) w',k=>exact go _ _ k
    |.ok (.enter f args) w',k=>
     refine⟨k.1,CallsIn.mono k.2 fun e w'' k=>?_⟩
     cases e with
     |returned v=>exact go _ _ k
     |panicked c=>exact k.elim
     |outgrown=>obtain⟨_,_,k⟩:=k;exact k.elim
    |.ok (.row row args) w',k=>exact⟨k.1,RowsIn.mono k.2 fun v w'' k=>go _ _ k⟩
    |.ok (.round l' f t as1 b) w',k=>
     refine⟨k.1,RoundIn.mono k.2 fun e w'' k=>?_⟩
     cases e with
     |returned v=>exact go _ _ k
     |panicked c=>exact k.elim
     |outgrown=>obtain⟨_,_,k⟩:=k;exact k.elim
    |.halt (.panic v) w',k=>exact k.elim
   ·rename_i hw
    rw[if_neg hw]at this
    refine⟨fun _ _=>trivial,?_⟩
    obtain⟨S',g',hk,hs⟩:=this
    rw[←zay]
    exact zaH hQ l hd.2 hk hs
def jM:Code→Bool
 |.region _ ops draw=>!draw&&ops.all Zi
 |.seq x y=>jM x&&jM y
 |.cond _ x y=>jM x&&jM y
 |.block _ c=>jM c
 |.skip=>true
 |.exit _=>true
 |.ret=>true
 |_=>false
def zpN [Gi](ds:List Deferred)(E:Ent)(Q:Exit→St→Prop):Exit→Act→World→Prop:=fun e a w=>∃b,a=j5 ds b∧post E Q e b w
theorem kq [Gi] {r:Option Nat} {n:Nat} {P:Program} {D:List Nat} {E:Ent} {ds:List Deferred}:∀(c:Code) {Q:Exit→St→Prop} {S:St} {g:Gh} {a:Act} {w:World},jM c=true→wpA P D c Q S→SR E S g a w→c.wpIn (Qf r) n P (zpN ds E Q) (j5 ds a) w
 |.skip,Q,S,g,a,w,_,h,hS=>wpIn_skip ⟨a,rfl,S,g,h,hS⟩
 |.region id ops draw,Q,S,g,a,w,hc,h,hS=>by
  simp only[jM,Bool.and_eq_true,Bool.not_eq_true']at hc
  obtain⟨rfl,hc⟩:=hc
  simp only[wpA,Bool.false_and,Bool.false_eq_true,if_false]at h
  have hndl:ops.toList.all Zi=true:=by rw[←Array.all_toList]at hc;exact hc
  exact wpIn_region_list (zaH (K:=Q .normal) (fun S' g' a' w' k hs=>⟨a',rfl,S',g',k,hs⟩) ops.toList hndl h hS.clean)
 |.seq x y,Q,S,g,a,w,hc,h,hS=>by
  simp only[jM,Bool.and_eq_true]at hc
  simp only[wpA]at h
  refine wpIn_seq (wpIn_mono (kq x hc.1 h hS) ?_)
  rintro e a' w' ⟨b,rfl,S',g',hq,hs⟩
  cases e with
  |normal=>exact kq y hc.2 hq hs
  |_=>exact⟨b,rfl,S',g',hq,hs⟩
 |.cond c x y,Q,S,g,a,w,hc,h,hS=>by
  simp only[jM,Bool.and_eq_true]at hc
  simp only[wpA]at h
  have hr:=hS.ev c
  rw[←Y3 ds]at hr
  split at h
  ·rename_i b hb
   rw[hb]at hr
   simp only[zb,zl]at hr
   cases b with
   |true=>exact wpIn_cond_true hr (kq x hc.1 (h.1 rfl) hS)
   |false=>exact wpIn_cond_false hr (kq y hc.2 (h.2 rfl) hS)
  ·exact h.elim
 |.block id c,Q,S,g,a,w,hc,h,hS=>by
  simp only[jM]at hc
  simp only[wpA]at h
  refine wpIn_block (wpIn_mono (kq c hc h hS) ?_)
  rintro e a' w' ⟨b,rfl,S',g',hq,hs⟩
  cases e with
  |exit i=>
   simp only[Exit.inBlock]
   simp only[]at hq
   split
   ·rename_i hi;rw[if_pos hi]at hq;exact⟨b,rfl,S',g',hq,hs⟩
   ·rename_i hi;rw[if_neg hi]at hq;exact⟨b,rfl,S',g',hq,hs⟩
  |_=>exact⟨b,rfl,S',g',hq,hs⟩
 |.exit id,Q,S,g,a,w,_,h,hS=>wpIn_exit ⟨a,rfl,S,g,h,hS⟩
 |.ret,Q,S,g,a,w,_,h,hS=>wpIn_ret ⟨a,rfl,S,g,h,hS⟩
 |.loop _,Q,S,g,a,w,hc,_,_=>by cases hc
 |.rangeFunc ..,Q,S,g,a,w,hc,_,_=>by cases hc
 |.scope _,Q,S,g,a,w,hc,_,_=>by cases hc
 |.label _,Q,S,g,a,w,hc,_,_=>by cases hc
 |.goto _,Q,S,g,a,w,hc,_,_=>by cases hc
 |.refuse _,Q,S,g,a,w,hc,_,_=>by cases hc
end
end Go.AM
