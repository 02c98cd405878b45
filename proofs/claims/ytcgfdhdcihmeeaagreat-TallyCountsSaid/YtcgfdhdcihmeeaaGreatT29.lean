/- A part of the proof of this seat's statements, by an abstract machine: what each operation does to values, and what the law's functions compute. Conditions: as each law says. -/
import Derived.Test.YtcgfdhdcihmeeaaGreatT18
import Derived.Test.YtcgfdhdcihmeeaaGreatT17
import Derived.Test.YtcgfdhdcihmeeaaGreatT25
import Derived.StillTail
import Derived.OrdersIn
import Derived.TacticsIn
import Derived.RangeFuncCalls
section
namespace Go.Proofs.YtcgfdhdcihmeeaaGreat
open Go.AM
set_option maxHeartbeats 1000000
set_option maxRecDepth 10000
def zf5(r:Int):Bool:=decide (44032≤r)&&decide (r<55204)
theorem wrap32 {x:Int}(h1: -2147483648≤x)(h2:x≤2147483647):IntKind.i32.wrap x=x:=by
 simp only[IntKind.wrap,IntKind.signed,IntKind.bits]
 simp
 omega
end Go.Proofs.YtcgfdhdcihmeeaaGreat
end
section
namespace Go.Proofs.YtcgfdhdcihmeeaaGreat
open Go.AM
set_option maxHeartbeats 1000000
set_option maxRecDepth 10000
def Vw(r:Int):List Int:=
 if(r-44032)%28=0 then [4352+(r-44032)/588,4449+(r-44032)/28%21]else [4352+(r-44032)/588,4449+(r-44032)/28%21,4519+(r-44032)%28]
theorem Ub(l:List Int):(l.map fun k=>PV.int .i32 k).flatMap PV.cells=l.map fun k=>PV.int .i32 k:=by
 induction l with
 |nil=>rfl
 |cons k l ih=>simp only[List.map_cons,List.flatMap_cons,ih];rfl
end Go.Proofs.YtcgfdhdcihmeeaaGreat
end
section
namespace Go.Proofs.YtcgfdhdcihmeeaaGreat
open Go.AM
set_option maxHeartbeats 4000000
set_option maxRecDepth 10000
end Go.Proofs.YtcgfdhdcihmeeaaGreat
end
section
namespace Go.AM
def ZU(r:Option Nat):Fence:={Fence.wide with round:=r}
theorem zfW(r:Option Nat)(P:Program)(m:Machine):m.fenced P (ZU r):=fenced_wide P m
theorem zdm {r:Option Nat} {P:Program} {m m':Machine}:StepsIn (Machine.fenced P (ZU r)) P m m'↔Steps P m m':=
 ⟨StepsIn.steps,fun h=>(StepsIn.of_steps h).mono fun m _=>zfW r P m⟩
theorem KY {r:Option Nat} {n:Nat} {P:Program} {f:FuncId} {args:Array Value} {w:World} {R:Ending→World→Prop}(h:Calls P f args w R):CallsIn (ZU r) n P f args w R:=
 (callsIn_wide (n:=n)).2 h
theorem YI {r:Option Nat} {n:Nat} {P:Program} {row:String} {args:Array Value} {w:World} {R:Value→World→Prop}(h:Rows P row args w R):RowsIn (ZU r) n P row args w R:=
 fun c cs _=>let⟨v,w',k,s⟩:=h c cs;⟨v,w',k,zdm.2 s⟩
def qN(o:Oper):Bool:=match o.op with
 |.defer _=>false
 |_=>true
theorem WW {o:Oper}(h:qN o=true):∀c,o.op≠ .defer c:=fun c e=>by unfold qN at h;rw[e]at h;cases h
section
variable {r:Option Nat} {n:Nat} {P:Program} {Q:Exit→Act→World→Prop}
theorem zkD {o:Oper} {a:Act} {next:Act→World→Prop}(_:¬LetsOut Q):∀{res:Result Next},o.upon P a next Q res→o.uponIn (ZU r) n P a next Q res
 |.ok (.value _) _,h=>h
 |.ok .skip _,h=>h
 |.ok (.defer _) _,h=>h
 |.ok (.enter _ _) _,h=>⟨fun e=>(by cases e),KY h⟩
 |.ok (.row _ _) _,h=>⟨fun e=>(by cases e),YI h⟩
 |.halt (.panic _) _,h=>h
theorem zaA {o:Oper} {a:Act} {w:World} {next:Act→World→Prop}(hd:qN o=true)(hQ:¬LetsOut Q)(h:o.wp P a w next Q):o.wpIn (ZU r) n P a w next Q:=by
 unfold Oper.wpIn
 rw[Oper.semAt_eq _ _ _ (WW hd)]
 exact⟨fun _ _=>trivial,zkD hQ h⟩
theorem zj2 {ops:Array Oper} {i:Nat} {K:Act→World→Prop} {a:Act} {w:World}(hd:ops.all qN=true)(hQ:¬LetsOut Q)(h:wpOp P ops Q i K a w):wpOpIn (ZU r) n P ops Q i K a w:=by
 unfold wpOp at h
 unfold wpOpIn
 cases ho:ops[i]? with
 |none=>simp only[ho]at h⊢;exact h
 |some o=>
  simp only[ho]at h⊢
  have hdo:qN o=true:=by
   have:=Array.all_eq_true'.1 hd o (Array.mem_of_getElem? ho)
   exact this
  by_cases hw:Region.wanted o (yielded ops a.tmps)=true
  ·rw[if_pos hw]at h⊢
   exact zaA hdo hQ (h.resolve_right fun k=>hQ k.2)
  ·rw[if_neg hw]at h⊢
   exact⟨fun _ _=>trivial,h⟩
theorem KS {ops:Array Oper} {md:Region.Mode}(hd:ops.all qN=true)(hQ:¬LetsOut Q):∀(fuel:Nat) (listed:Array Bool) (a:Act) (w:World),wpAny P md ops Q fuel listed a w→wpAnyIn (ZU r) n P md ops Q fuel listed a w
 |0,_,_,_,h=>h
 |fuel+1,_,_,_,h=>⟨h.1,fun i hi=>zj2 hd hQ (wpOp_mono (fun a' w' k=>KS hd hQ fuel _ a' w' k) (h.2 i hi))⟩
theorem kN {ops:Array Oper}(hQ:¬LetsOut Q):∀(l:List Oper) (a:Act) (w:World),l.all qN=true→wpList P ops Q l a w→wpListIn (ZU r) n P ops Q l a w
 | [],_,_,_,h=>h
 |o::l,a,w,hd,h=>by
  simp only[List.all_cons,Bool.and_eq_true]at hd
  unfold wpList at h
  unfold wpListIn
  split at h
  ·rename_i hw
   rw[if_pos hw]
   exact zaA hd.1 hQ (Oper.wp_mono (fun a' w' k=>kN hQ l a' w' hd.2 k) (h.resolve_right fun k=>hQ k.2))
  ·rename_i hw
   rw[if_neg hw]
   exact⟨fun _ _=>trivial,kN hQ l _ w hd.2 h⟩
theorem zdI {w:World} {a:Act} {l:List Oper}(m:Nat)(hB:Region.lexTailB .any l.toArray m=true)
  (h:wpStill P l.toArray w (fun a'=>wpList P l.toArray Q (l.drop m) a' w) (l.take m) a):wpAny P .any l.toArray Q l.toArray.size (Array.replicate l.toArray.size false) a w:=by
 simp only[Region.lexTailB,Bool.and_eq_true,decide_eq_true_eq]at hB
 obtain⟨⟨⟨⟨hsel,hn⟩,hs⟩,hc⟩,hlex⟩:=hB
 have hn':m<l.length:=by simpa using hn
 have htl:(l.take m).length=m:=by simp;omega
 have hdl:(l.drop m).length=l.toArray.size-m:=by simp
 have inv0:HeadInv .any l.toArray m (Array.replicate l.toArray.size false):=
  ⟨by simp,fun j oj _ hl=>(by rw[getD_replicate_false]at hl;cases hl),fun t _ ht=>getD_in (by simpa using ht) (getD_replicate_false _ _)⟩
 have H:=wpAnyL_lex (md:=.any) (g:=l.toArray.size-m) hsel hs hc hn (l.take m) 0 _ a (fun j hj=>by
  have hj':j<m:=by rw[htl]at hj;exact hj
  simp[hj']) (by simpa using htl) inv0 (by rw[htl];exact hlex) h
 have:=wpAny_of_head (Q':=Q) (g:=l.toArray.size-m) (fun listed a' hL=>by
  have:=wpAny_of_seq (md:=.any) (Q':=Q) (l.drop m) m listed a' w (fun j=>by simp[List.getElem?_drop]) (by rw[hdl];exact hL.1) hL.2
  rwa[hdl]at this) _ _ _ H
 rw[htl,show m+(l.toArray.size-m)=l.toArray.size by omega]at this
 exact this
end
def WV(K:Act→World→Prop):Exit→Act→World→Prop
 |.normal,a,w=>K a w
 |_,_,_=>False
theorem kL(K:Act→World→Prop):¬LetsOut (WV K):=fun⟨_,_,h⟩=>h
def zdF(ops:Array Oper)(draw:Bool):Bool:=
 ops.all qN&&(!draw || (decide (qS ops.toList≠ops.size)&&Region.lexTailB .any ops.toList.toArray (qS ops.toList)))
theorem J0 [Gi] {r:Option Nat} {n:Nat} {P:Program} {id:Nat} {ops:Array Oper} {draw:Bool}(hm:P.follows .mixedOrders=true)(hd:zdF ops draw=true) {E:Ent} {K:St→Prop}
  {S:St} {g:Gh} {a:Act} {w:World} (h:Ze P ops ops.toList S K) (hS:SR E S g a w):(Code.region id ops draw).wpIn (ZU r) n P (WV fun a' w'=>∃S' g',K S'∧SR E S' g' a' w') a w:=by
 unfold zdF at hd
 simp only[Bool.and_eq_true]at hd
 obtain⟨hnd,hd⟩:=hd
 have hndl:ops.toList.all qN=true:=by rw[←Array.all_toList]at hnd;exact hnd
 have hQ:∀S' g' a' w',K S'→SR E S' g' a' w'→WV (fun a' w'=>∃S' g',K S'∧SR E S' g' a' w') .normal a' w':=fun S' g' a' w' k hs=>⟨S',g',k,hs⟩
 cases draw with
 |false=>exact wpIn_region_list (kN (kL _) _ _ _ hndl (QC hQ ops.toList h hS))
 |true=>
  simp only[Bool.not_true,Bool.false_or,Bool.and_eq_true,decide_eq_true_eq]at hd
  have hw1:SR E S g a {w with drawn:=w.drawn+1}:=hS.drew
  refine wpIn_region_any hm ?_
  refine KS hnd (kL _) _ _ _ _ ?_
  have e:ops=ops.toList.toArray:=by simp
  rw[e]
  refine zdI (qS ops.toList) hd.2 ?_
  rw[←e]
  have:=jd (P:=P) (ops:=ops) (K:=K) (ops.toList.drop (qS ops.toList)) (ops.toList.take (qS ops.toList)) (kJ _) (by rw[List.take_append_drop];exact h) hw1
  have mono:∀(l:List Oper) (a:Act) (F G:Act→Prop),(∀a,F a→G a)→wpStill P ops {w with drawn:=w.drawn+1} F l a→wpStill P ops {w with drawn:=w.drawn+1} G l a:=by
   intro l
   induction l with
   |nil=>intro a F G hFG hh;exact hFG _ hh
   |cons o l ih=>
    intro a F G hFG hh
    unfold wpStill at hh⊢
    split
    ·rename_i hw
     rw[if_pos hw]at hh
     exact Oper.still_mono (fun a h=>ih a F G hFG h) hh
    ·rename_i hw
     rw[if_neg hw]at hh
     exact ih _ F G hFG hh
  exact mono _ _ _ _ (fun a' ⟨S',g',h1,h2⟩=>QC hQ _ h1 h2) this
theorem Kj [Gi] {r:Option Nat} {n:Nat} {P:Program} {id:Nat} {ops:Array Oper}(hm:P.follows .mixedOrders=true)(hd:ops.all qN=true) {E:Ent} {K:St→Prop}
  {S:St} {g:Gh} {a:Act} {w:World} (h:∃t,(Region.noSelect ops&&okT ops ops.size (Array.replicate ops.size false) t)=true∧j6 P ops K t S) (hS:SR E S g a w):(Code.region id ops true).wpIn (ZU r) n P (WV fun a' w'=>∃S' g',K S'∧SR E S' g' a' w') a w:=by
 obtain⟨t,hok,h⟩:=h
 have hw1:SR E S g a {w with drawn:=w.drawn+1}:=hS.drew
 simp only[Bool.and_eq_true]at hok
 exact wpIn_region_any hm (KS hd (kL _) _ _ _ _ (zbL (Q:=WV fun a' w'=>∃S' g',K S'∧SR E S' g' a' w') (fun S' g' a' w' k hs=>⟨S',g',k,hs⟩) (fun c a w hq=>hq) hok.1 hok.2 h hw1))
def ZT(D:List Nat):Code→Bool
 |.region id ops draw=>bif draw&&D.contains (id+200000)then ops.all qN else zdF ops draw&& !(draw&&(D.contains (id+100000) || D.contains id))
 |.seq x y=>ZT D x&&ZT D y
 |.cond _ x y=>ZT D x&&ZT D y
 |.block _ c=>ZT D c
 |.skip=>true
 |.exit _=>true
 |.ret=>true
 |_=>false
theorem ZM {F:Fence} {n:Nat} {P:Program} {c:Code} {K:Act→World→Prop} {Q:Exit→Act→World→Prop} {a:Act} {w:World}(h:c.wpIn F n P (WV K) a w)(hq:∀a w,K a w→Q .normal a w):c.wpIn F n P Q a w:=
 wpIn_mono h fun e a w k=>match e,k with
  |.normal,k=>hq a w k
theorem ZV [Gi] {r:Option Nat} {n:Nat} {P:Program} {D:List Nat}(hm:P.follows .mixedOrders=true) {E:Ent}:∀(c:Code) {Q:Exit→St→Prop} {S:St} {g:Gh} {a:Act} {w:World},ZT D c=true→wpA P D c Q S→SR E S g a w→c.wpIn (ZU r) n P (post E Q) a w
 |.skip,Q,S,g,a,w,_,h,hS=>wpIn_skip ⟨S,g,h,hS⟩
 |.region id ops draw,Q,S,g,a,w,hc,h,hS=>by
  simp only[wpA]at h
  by_cases hT:(draw&&D.contains (id+200000))=true
  ·simp only[ZT,hT,cond_true]at hc
   rw[if_pos hT]at h
   simp only[Bool.and_eq_true]at hT
   obtain⟨rfl,_⟩:=hT
   obtain⟨t,K',h1,h2,h3⟩:=h
   refine ZM (Kj hm hc (K:=K') ⟨t,h1,h2⟩ hS.clean) (fun a w k=>?_)
   obtain⟨S',g',hk,hs⟩:=k
   rcases h3 S' hk with h|⟨S1,hl,h⟩
   ·exact⟨S',g',h,hs⟩
   ·obtain⟨g2,hs2⟩:=hs.leR hl
    exact⟨S1,g2,h,hs2⟩
  rw[if_neg hT]at h
  simp only[ZT,Bool.eq_false_iff.2 hT,cond_false,Bool.and_eq_true,Bool.not_eq_true',Bool.and_eq_false_iff,Bool.or_eq_false_iff]at hc
  have h1:(draw&&D.contains (id+100000))=false:=by
   rcases hc.2 with e|e
   ·rw[e];rfl
   ·rw[e.1];exact Bool.and_false _
  have h2:(draw&&D.contains id)=false:=by
   rcases hc.2 with e|e
   ·rw[e];rfl
   ·rw[e.2];exact Bool.and_false _
  rw[h1,h2]at h
  simp only[Bool.false_eq_true,if_false]at h
  exact ZM (J0 hm hc.1 (K:=Q .normal) h hS.clean) (fun a w k=>k)
 |.seq x y,Q,S,g,a,w,hc,h,hS=>by
  simp only[ZT,Bool.and_eq_true]at hc
  simp only[wpA]at h
  refine wpIn_seq (wpIn_mono (ZV hm x hc.1 h hS) ?_)
  rintro e a' w' ⟨S',g',hq,hs⟩
  cases e with
  |normal=>exact ZV hm y hc.2 hq hs
  |_=>exact⟨S',g',hq,hs⟩
 |.cond c x y,Q,S,g,a,w,hc,h,hS=>by
  simp only[ZT,Bool.and_eq_true]at hc
  simp only[wpA]at h
  have hr:=hS.ev c
  split at h
  ·rename_i b hb
   rw[hb]at hr
   simp only[zb,zj]at hr
   cases b with
   |true=>exact wpIn_cond_true hr (ZV hm x hc.1 (h.1 rfl) hS)
   |false=>exact wpIn_cond_false hr (ZV hm y hc.2 (h.2 rfl) hS)
  ·exact h.elim
 |.block id c,Q,S,g,a,w,hc,h,hS=>by
  simp only[ZT]at hc
  simp only[wpA]at h
  refine wpIn_block (wpIn_mono (ZV hm c hc h hS) ?_)
  rintro e a' w' ⟨S',g',hq,hs⟩
  cases e with
  |exit i=>
   simp only[Exit.inBlock]
   simp only[]at hq
   split
   ·rename_i hi;rw[if_pos hi]at hq;exact⟨S',g',hq,hs⟩
   ·rename_i hi;rw[if_neg hi]at hq;exact⟨S',g',hq,hs⟩
  |_=>exact⟨S',g',hq,hs⟩
 |.exit id,Q,S,g,a,w,_,h,hS=>wpIn_exit ⟨S,g,h,hS⟩
 |.ret,Q,S,g,a,w,_,h,hS=>wpIn_ret ⟨S,g,h,hS⟩
 |.loop _,Q,S,g,a,w,hc,_,_=>by cases hc
 |.rangeFunc ..,Q,S,g,a,w,hc,_,_=>by cases hc
 |.scope _,Q,S,g,a,w,hc,_,_=>by cases hc
 |.label _,Q,S,g,a,w,hc,_,_=>by cases hc
 |.goto _,Q,S,g,a,w,hc,_,_=>by cases hc
 |.refuse _,Q,S,g,a,w,hc,_,_=>by cases hc
def jy(ds:List Deferred)(a:Act):Act:={a with defers:=ds}
theorem Ys(ds:List Deferred)(a:Act)(d:Option Nat)(v:Value):jy ds (a.put d v)=(jy ds a).put d v:=by cases d<;>rfl
theorem Js(ds:List Deferred)(a:Act)(x:Operand):(jy ds a).eval x=a.eval x:=by cases x<;>rfl
theorem zg9 [Gi] {r:Option Nat} {n:Nat} {P:Program} {E:Ent} {K:St→Prop} {o:Oper} {a:Act} {w:World} {ds:List Deferred}(hd:qN o=true)
  (h:o.wp P a w (fun a' w'=>∃S' g',K S'∧SR E S' g' a' w') (fun _ _ _=>False)) (_:a.defers=[]):
  o.wpIn (ZU r) n P (jy ds a) w (fun a' w'=>∃b,a'=jy ds b∧∃S' g',K S'∧SR E S' g' b w') (fun _ _ _=>False):=by
 unfold Oper.wpIn
 rw[Oper.semAt_eq _ _ _ (WW hd)]
 refine⟨fun _ _=>trivial,?_⟩
 unfold Oper.wp at h
 have he:(jy ds a).eval=a.eval:=funext (Js ds a)
 rw[he]
 generalize (execOp a.eval o).run P w=res at h
 have put:∀v w',(∃S' g',K S'∧SR E S' g' (a.put o.dst v) w')→∃b,(jy ds a).put o.dst v=jy ds b∧∃S' g',K S'∧SR E S' g' b w':=fun v w' k=>⟨a.put o.dst v,(Ys ds a _ v).symm,k⟩
 match res,h with
 |.ok (.value v) w',h=>exact put v w' h
 |.ok .skip w',h=>exact put undef w' h
 |.ok (.defer d) w',h=>
  obtain⟨S',g',_,hs⟩:=h
  have:=hs.defers
  cases hdst:o.dst<;>rw[hdst]at this<;>simp[Act.put]at this
 |.ok (.enter f args) w',h=>
  refine⟨fun e=>(by cases e),KY (Calls.mono h fun e w'' k=>?_)⟩
  cases e with
  |returned v=>exact put v w'' k
  |panicked c=>exact k
  |outgrown=>exact k
 |.ok (.row row args) w',h=>exact⟨fun e=>(by cases e),YI (Rows.mono h fun v w'' k=>put v w'' k)⟩
 |.halt (.panic v) w',h=>exact h
theorem zas [Gi] {r:Option Nat} {n:Nat} {P:Program} {ops:Array Oper} {E:Ent} {K:St→Prop} {ds:List Deferred} {Q:Exit→Act→World→Prop}(hQ:∀S' g' a' w',K S'→SR E S' g' a' w'→Q .normal (jy ds a') w'):
  ∀(l:List Oper) {S:St} {g:Gh} {a:Act} {w:World},l.all qN=true→Ze P ops l S K→SR E S g a w→wpListIn (ZU r) n P ops Q l (jy ds a) w
 | [],S,g,a,w,_,h,hS=>hQ _ _ _ _ h hS
 |o::l,S,g,a,w,hd,h,hS=>by
  simp only[List.all_cons,Bool.and_eq_true]at hd
  unfold Ze at h
  cases hc:z5 ops S o with
  |none=>simp only[hc]at h
  |some c=>
   simp only[hc]at h
   have:=kU (P:=P) hS hc h (next:=fun a' w'=>∃S' g',Ze P ops l S' K∧SR E S' g' a' w') (Q:=fun _ _ _=>False) (fun S' g' a' w' hk hs=>⟨S',g',hk,hs⟩)
   have hy:yielded ops (jy ds a).tmps=yielded ops a.tmps:=rfl
   unfold wpListIn
   rw[hy]
   split
   ·rename_i hw
    rw[if_pos hw]at this
    have h1:=zg9 (r:=r) (n:=n) (ds:=ds) hd.1 this hS.defers
    refine⟨h1.1,?_⟩
    have h2:=h1.2
    generalize (o.semAt (ZU r).round (jy ds a).eval).run P w=res at h2
    have go:∀a' w',(∃b,a'=jy ds b∧∃S' g',Ze P ops l S' K∧SR E S' g' b w')→wpListIn (ZU r) n P ops Q l a' w':=by
     rintro a' w' ⟨b,rfl,S',g',hk,hs⟩
     exact zas hQ l hd.2 hk hs
    match res,h2 with
    |.ok (.value v) w',k=>exact go _ _ k
    |.ok .skip w',k=>exact go _ _ k
    |.ok (.defer d) w',k=>exact go _ _ k
    |.ok (.enter f args) w',k=>
     refine⟨k.1,CallsIn.mono k.2 fun e w'' k=>?_⟩
     cases e with
     |returned v=>exact go _ _ k
     |panicked c=>exact k.elim
     |outgrown=>obtain⟨_,_,k⟩:=k;exact k.elim
    |.ok (.row row args) w',k=>exact⟨k.1,RowsIn.mono k.2 fun v w'' k=>go _ _ k⟩
    |.ok (.round l' f t as1 b) w',k=>
     refine⟨k.1,RoundIn.mono k.2 fun e w'' k=>?_⟩
     cases e with
     |returned v=>exact go _ _ k
     |panicked c=>exact k.elim
     |outgrown=>obtain⟨_,_,k⟩:=k;exact k.elim
    |.halt (.panic v) w',k=>exact k.elim
   ·rename_i hw
    rw[if_neg hw]at this
    refine⟨fun _ _=>trivial,?_⟩
    obtain⟨S',g',hk,hs⟩:=this
    rw[←Ys]
    exact zas hQ l hd.2 hk hs
def jm:Code→Bool
 |.region _ ops draw=>!draw&&ops.all qN
 |.seq x y=>jm x&&jm y
 |.cond _ x y=>jm x&&jm y
 |.block _ c=>jm c
 |.skip=>true
 |.exit _=>true
 |.ret=>true
 |_=>false
def zoc [Gi](ds:List Deferred)(E:Ent)(Q:Exit→St→Prop):Exit→Act→World→Prop:=fun e a w=>∃b,a=jy ds b∧post E Q e b w
theorem jH [Gi] {r:Option Nat} {n:Nat} {P:Program} {D:List Nat} {E:Ent} {ds:List Deferred}:∀(c:Code) {Q:Exit→St→Prop} {S:St} {g:Gh} {a:Act} {w:World},jm c=true→wpA P D c Q S→SR E S g a w→c.wpIn (ZU r) n P (zoc ds E Q) (jy ds a) w
 |.skip,Q,S,g,a,w,_,h,hS=>wpIn_skip ⟨a,rfl,S,g,h,hS⟩
 |.region id ops draw,Q,S,g,a,w,hc,h,hS=>by
  simp only[jm,Bool.and_eq_true,Bool.not_eq_true']at hc
  obtain⟨rfl,hc⟩:=hc
  simp only[wpA,Bool.false_and,Bool.false_eq_true,if_false]at h
  have hndl:ops.toList.all qN=true:=by rw[←Array.all_toList]at hc;exact hc
  exact wpIn_region_list (zas (K:=Q .normal) (fun S' g' a' w' k hs=>⟨a',rfl,S',g',k,hs⟩) ops.toList hndl h hS.clean)
 |.seq x y,Q,S,g,a,w,hc,h,hS=>by
  simp only[jm,Bool.and_eq_true]at hc
  simp only[wpA]at h
  refine wpIn_seq (wpIn_mono (jH x hc.1 h hS) ?_)
  rintro e a' w' ⟨b,rfl,S',g',hq,hs⟩
  cases e with
  |normal=>exact jH y hc.2 hq hs
  |_=>exact⟨b,rfl,S',g',hq,hs⟩
 |.cond c x y,Q,S,g,a,w,hc,h,hS=>by
  simp only[jm,Bool.and_eq_true]at hc
  simp only[wpA]at h
  have hr:=hS.ev c
  rw[←Js ds]at hr
  split at h
  ·rename_i b hb
   rw[hb]at hr
   simp only[zb,zj]at hr
   cases b with
   |true=>exact wpIn_cond_true hr (jH x hc.1 (h.1 rfl) hS)
   |false=>exact wpIn_cond_false hr (jH y hc.2 (h.2 rfl) hS)
  ·exact h.elim
 |.block id c,Q,S,g,a,w,hc,h,hS=>by
  simp only[jm]at hc
  simp only[wpA]at h
  refine wpIn_block (wpIn_mono (jH c hc h hS) ?_)
  rintro e a' w' ⟨b,rfl,S',g',hq,hs⟩
  cases e with
  |exit i=>
   simp only[Exit.inBlock]
   simp only[]at hq
   split
   ·rename_i hi;rw[if_pos hi]at hq;exact⟨b,rfl,S',g',hq,hs⟩
   ·rename_i hi;rw[if_neg hi]at hq;exact⟨b,rfl,S',g',hq,hs⟩
  |_=>exact⟨b,rfl,S',g',hq,hs⟩
 |.exit id,Q,S,g,a,w,_,h,hS=>wpIn_exit ⟨a,rfl,S,g,h,hS⟩
 |.ret,Q,S,g,a,w,_,h,hS=>wpIn_ret ⟨a,rfl,S,g,h,hS⟩
 |.loop _,Q,S,g,a,w,hc,_,_=>by cases hc
 |.rangeFunc ..,Q,S,g,a,w,hc,_,_=>by cases hc
 |.scope _,Q,S,g,a,w,hc,_,_=>by cases hc
 |.label _,Q,S,g,a,w,hc,_,_=>by cases hc
 |.goto _,Q,S,g,a,w,hc,_,_=>by cases hc
 |.refuse _,Q,S,g,a,w,hc,_,_=>by cases hc
end Go.AM
end
