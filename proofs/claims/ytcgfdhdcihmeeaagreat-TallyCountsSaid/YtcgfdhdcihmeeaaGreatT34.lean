/- A part of the proof of this seat's statements, by an abstract machine: what each operation does to values, and what the law's functions compute. Conditions: as each law says. -/
import Derived.Test.YtcgfdhdcihmeeaaGreatT31
import Derived.Test.YtcgfdhdcihmeeaaGreatT33
section
namespace Go.AM
@[go_sem] def zlu : AV → Option Value
 |.p (.int k n)=>some (.int k n)
 |.p (.bool b)=>some (.bool b)
 |.p (.agg [.int k n,.int j m])=>some (.agg #[.int k n,.int j m])
 |_=>none
theorem zgE {g:Gh} {w:World} {x:AV} {u v:Value}(h:zlu x=some u)(r:zb g w x v):v=u:=by
 unfold zlu at h
 split at h
 ·injection h with h;subst h;simpa only[zb,zj]using r
 ·injection h with h;subst h;simpa only[zb,zj]using r
 ·injection h with h;subst h
  simp only[zb,zj,zr]at r
  obtain⟨vs,rfl,v1,l1,e1,_,rfl,v2,l2,rfl,_,rfl,rfl⟩:=r
  congr 1
  exact Array.ext' e1
 ·cases h
@[go_sem] def ug (S : St) : List Operand → Prop × Option (List Value)
 | []=>(True,some [])
 |x::l=>((unG (S.ev x)).1∧(ug S l).1,match zlu (unG (S.ev x)).2,(ug S l).2 with
  |some v,some vs=>some (v::vs)
  |_,_=>none)
section
variable [Gi] {P:Program} {E:Ent} {Q:Exit→St→Prop} {S:St}
theorem Kz {g:Gh} {a:Act} {w:World}(hS:SR E S g a w):∀{l:List Operand} {vs:List Value},(ug S l).1→(ug S l).2=some vs→l.map a.eval=vs
 | [],vs,_,h=>by simp only[ug,Option.some.injEq]at h;subst h;rfl
 |x::l,vs,h1,h=>by
  simp only[ug]at h1 h
  split at h
  ·rename_i v vs' e1 e2
   injection h with h;subst h
   rw[List.map_cons,Kz hS h1.2 e2,zgE e1 (zo h1.1 (hS.ev x))]
  ·cases h
theorem zN.zmd {id l d:Nat} {pre suf:List Oper} {o:Oper} {ops:List Oper}(hops:ops=pre++o::suf) {x:Operand} {as1:Array Operand} {tys:Array TypeId}(ho:o.op=.call ⟨.value x,as1,tys⟩)(hdst:o.dst=some d)
  {pins:List Tok} (hd1:pre.all qN=true) (hd2:suf.all qN=true)
  (h:Ze P ops.toArray pre {S with ts:=[]} fun S1=>∃c wk R,z5 ops.toArray S1 o=some c∧c≠some false∧(unG (S1.ev x)).1∧(unG (S1.ev x)).2=.p (.opq (.func (.yield l) #[] #[]))∧(ug S1 as1.toList).1∧(ug S1 as1.toList).2=some wk∧d<S1.n∧
   S1.pin.all (fun t=>pins.contains t)=true∧VJ P E l pins wk S1 R∧∀rs,R rs→Ze P ops.toArray suf ((kx S1 pins rs).set d (.p (.bool true))) (Q .normal)):zN P E (.region id ops.toArray false) Q S:=by
 intro g a w hS
 refine(wpIn_wide (n:=0)).1 (ZM (K:=fun a' w'=>∃S' g',Q .normal S'∧SR E S' g' a' w') (wpIn_region_list ?_) fun a' w' k=>k)
 show wpListIn Fence.wide 0 P ops.toArray (WV fun a' w'=>∃S' g',Q .normal S'∧SR E S' g' a' w') ops a w
 generalize hoa:ops.toArray=oa at h⊢
 subst hops
 refine U5 pre (o::suf) hd1 h hS.clean ?_
 rintro S1 g1 a1 w1 ⟨c,wk,R,hg,hc,hu,hx,hl1,hl2,hd,hp,hY,hrest⟩ hs
 obtain⟨dst,op,tt,pos,after,guard⟩:=o
 simp only at ho hdst
 subst ho
 subst hdst
 have hw:Region.wanted ⟨some d,.call ⟨.value x,as1,tys⟩,tt,pos,after,guard⟩ (yielded oa a1.tmps)=true:=by
  cases c with
  |none=>exact jM hg _
  |some b=>
   rw[Q3 hs hg]
   cases b with
   |true=>rfl
   |false=>exact absurd rfl hc
 unfold wpListIn
 rw[if_pos hw]
 unfold Oper.wpIn
 rw[Oper.semAt_eq _ _ _ (fun c=>by simp)]
 refine⟨fun _ _=>trivial,?_⟩
 have hr:=zo hu (hs.ev x)
 rw[hx]at hr
 simp only[zb,zj]at hr
 have hargs:=Kz hs hl1 hl2
 obtain⟨fn,tm,asg,bd,hy1,hy2⟩:=hY g1 a1 w1 hs
 have hrun:(execOp a1.eval ⟨some d,.call ⟨.value x,as1,tys⟩,tt,pos,after,guard⟩).run P w1=.ok (.round l fn tm asg bd) w1:=by
  have ha:(as1.map a1.eval)=wk.toArray:=by
   rw[←hargs];apply Array.ext';simp
  simp only[execOp,resolve,hr,Deferred.ofValue,Sem.run_bind,Sem.run_pure,Result.andThen_ok,invoke]
  rw[←hy1]
  congr 1
  simp[ha]
 rw[hrun]
 refine⟨fun e=>(by cases e),RoundIn.mono hy2 ?_⟩
 rintro e w' ⟨rfl,S',g',a',gl,hs',hp',hR⟩
 have c0:=hs.comp (show SR ⟨w1,g1,hs.gl⟩ S' g' a' w' from hs') (fun t ht=>by rw[hp'];exact(List.contains_iff_mem).1 (List.all_eq_true.1 hp t ht))
 have kv:=KV.of hs (show SR ⟨w1,g1,hs.gl⟩ S' g' a' w' from hs') hp'
 have hb:=hs.back c0 kv rfl
 have hb2:=hb.put (d:=d) (x:=.p (.bool true)) (v:=.bool true) (by simp only[zb,zj]) hd
 exact kN (r:=none) (n:=0) (kL _) suf _ _ hd2 (QC (K:=Q .normal) (fun S' g' a' w' hk hs=>⟨S',g',hk,hs⟩) suf (hrest _ hR) hb2)
end
theorem zN.Wk [Gi] {P:Program} {E:Ent} {Q:Exit→St→Prop} {S:St} {id l d:Nat}(i:Nat) {o:Oper} {ops:List Oper}(hi:ops[i]?=some o) {x:Operand} {as1:Array Operand} {tys:Array TypeId}(ho:o.op=.call ⟨.value x,as1,tys⟩)(hdst:o.dst=some d)
  {pins:List Tok} (hd1:(ops.take i).all qN=true) (hd2:(ops.drop (i+1)).all qN=true)
  (h:Ze P ops.toArray (ops.take i) {S with ts:=[]} fun S1=>∃c wk R,z5 ops.toArray S1 o=some c∧c≠some false∧(unG (S1.ev x)).1∧(unG (S1.ev x)).2=.p (.opq (.func (.yield l) #[] #[]))∧(ug S1 as1.toList).1∧(ug S1 as1.toList).2=some wk∧d<S1.n∧
   S1.pin.all (fun t=>pins.contains t)=true∧VJ P E l pins wk S1 R∧∀rs,R rs→Ze P ops.toArray (ops.drop (i+1)) ((kx S1 pins rs).set d (.p (.bool true))) (Q .normal)):zN P E (.region id ops.toArray false) Q S:=by
 refine zN.zmd (pre:=ops.take i) (suf:=ops.drop (i+1)) (o:=o) ?_ ho hdst hd1 hd2 h
 obtain⟨hlt,rfl⟩:=List.getElem?_eq_some_iff.1 hi
 rw[←List.drop_eq_getElem_cons hlt,List.take_append_drop]
theorem zdN.zkI [Gi] {P:Program} {S:St} {Q:Exit→St→Prop} {sg p q id:Nat} {assign body rest:Code} {D:List Nat}(hm:P.follows .mixedOrders=true)
  {gf:FuncId} {caps:List AV} (hent:((P.funcs[gf]?).map (·.body.isSome))=some true) (hnam:((P.funcs[gf]?).map (·.name))≠some "runtime.NumGoroutine")
  {fn':Func} {c:Code} (nv:Nat) (ex:List Nat) (hf:P.funcs[gf]?=some fn') (hb:fn'.body=some c) (hres:fn'.results= #[]) (hnv:caps.length+1≤nv) (hn:caps.length+1≤fn'.ntmps)
  (V:List (Nat×AV)) (pins:List Tok) (R0:List (Tok×List AV)) (Rend:List (Tok×List AV)→Prop) (hV:V.map (fun x=>(x.1,jX pins x.2))=V) (hpins:∀t,t∈S.pin→t∈pins)
  (hsg:S.kept sg=true) (hVs:look V sg=none) (h0:LeS S (lst S (V++[(sg,.fn gf caps)]) R0 S.pin)) (hp:p<S.n) (hq:q<S.n) (hca:ZT D assign=true) (hcb:ZT D body=true)
  {ι:Type} (Ok:ι→Prop) (R nxt:ι→List (Tok×List AV)) (arg:ι→Int×AV×Value) (pr:ι→List Tok) (hpr:∀k t,t∈S.pin→t∈pr k) (hav:∀k g w,zb g w (arg k).2.1 (arg k).2.2)
  (hround:∀k,Ok k→wpA P D assign (zat (pr k) fun S1=>wpA P D body (zea S (pr k) (nxt k)) S1) (((lst S V (R k) (pr k)).set p (.p (.int .i64 (arg k).1))).set q (arg k).2.1))
  (hiter:∀(E:Ent) (l:Nat),(∀k S1,Ok k→S1.rs=R k→S1.pin=pins→VJ P E l (pr k) [.int .i64 (arg k).1,(arg k).2.2] S1 (fun rs=>rs=nxt k))→zN P E c (zfA pins Rend) (itS fn' nv ex l caps R0 pins))
  (hrest:∀rs,Rend rs→zhf P rest Q (lst S V rs S.pin)):zdN P (.block id (.rangeFunc (.tmp sg) #[p,q] assign body)) rest Q S:=by
 intro E g a w hS
 obtain⟨g2,hA⟩:=hS.le h0
 have hgv:=hA.ev (.tmp sg)
 have hev:(lst S (V++[(sg,.fn gf caps)]) R0 S.pin).ev (.tmp sg)=.fn gf caps:=by
  show(lst S (V++[(sg,.fn gf caps)]) R0 S.pin).get sg=_
  have hk:(lst S (V++[(sg,.fn gf caps)]) R0 S.pin).kept sg=true:=hsg
  unfold St.get
  rw[if_pos hk]
  show qn (look (V++[(sg,AV.fn gf caps)]) sg)=_
  rw[Jm,hVs]
  simp[look,qn]
 rw[hev]at hgv
 simp only[zb]at hgv
 obtain⟨lb,hgv,hcaps⟩:=hgv
 have h2:SR E (lst S V R0 S.pin) g2 a w:=by
  refine hA.weaken rfl (fun t=>?_) rfl rfl
  have hk:(lst S (V++[(sg,.fn gf caps)]) R0 S.pin).kept t=(lst S V R0 S.pin).kept t:=rfl
  unfold St.get
  rw[hk]
  split
  ·show LeA (qn (look (V++[(sg,AV.fn gf caps)]) t)) (qn (look V t))
   rw[Jm]
   cases look V t with
   |none=>exact LeA.z8 _
   |some x=>exact LeA.refl _
  ·exact LeA.refl _
 have hmono:E.w0.heap.size≤w.heap.size:=hS.mono
 have eg:∀args w,(callFunc gf args).run P w=.ok (.enter gf args) w:=fun args w=>Qv hent hnam
 refine wpIn_block (wpIn_rangeFunc ?_)
 intro fn hfn
 obtain⟨rec,hrec⟩:∃rec:LoopState→Option Code→Loop,rec=fun st pe=>{state:=st,pending:=pe,fn,tmps:=a.tmps,params:= #[p,q],assign,body,defers:=w.heap.size}:=⟨_,rfl⟩
 obtain⟨W1,hW1⟩:∃W1,(w.alloc (.deferred (some []))).alloc (.loop (rec .ready none))=W1:=⟨_,rfl⟩
 obtain⟨l,hl0⟩:∃l,l=w.heap.size+1:=⟨_,rfl⟩
 have hL1:W1.heap[l]?=some (.loop (rec .ready none)):=by
  rw[←hW1,hl0];have:=World.alloc_heap_new (w.alloc (.deferred (some []))) (.loop (rec .ready none));rwa[World.size_alloc]at this
 have hK1:W1.heap[w.heap.size]?=some (.deferred (some [])):=by
  rw[←hW1,heap_alloc,if_neg (by simp)];exact World.alloc_heap_new w _
 have h3:SR E (lst S V R0 S.pin) g2 a W1:=by rw[←hW1];exact(h2.alloc _).alloc _
 have prot2:∀b,w.heap.size≤b→g2.K b=.prot:=fun b hb=>Classical.byContradiction fun e=>by have:=(h2.own b e).1;omega
 have hmayL:E.may l:=.inl (by omega)
 have hl1:=(Array.getElem?_eq_some_iff.1 hL1).1
 have hD1:=(Array.getElem?_eq_some_iff.1 hK1).1
 have hA1:SR E (lst S (V++[(sg,.fn gf caps)]) R0 S.pin) g2 a W1:=by rw[←hW1];exact(hA.alloc _).alloc _
 have hcaps1:zm g2 W1 caps lb.toList:=by
  have h5:=hA1.ev (.tmp sg)
  rw[hev]at h5
  simp only[zb]at h5
  obtain⟨lb',h6,h7⟩:=h5
  rw[hgv]at h6
  injection h6 with _ _ h6
  subst h6
  exact h7
 have hG1:GS g2 W1 R0:=⟨h3.roots,h3.ur,h3.ut,fun b hb=>(h3.own b hb).1,h3.frb,h3.gl⟩
 have hyield:∀k S1,Ok k→S1.rs=R k→S1.pin=pins→VJ P ⟨W1,g2,h3.gl⟩ l (pr k) [.int .i64 (arg k).1,(arg k).2.2] S1 (fun rs=>rs=nxt k):=by
  intro k S1 hk hr1 hp1 g' a1 A hit
  have c0:=h3.comp hit (fun t ht=>by rw[hp1];exact hpins t ht)
  have hs:=h3.back c0 (KV.of h3 hit hp1) rfl
  have eb0:kx (lst S V R0 S.pin) pins S1.rs=lst S V (R k) S.pin:=by
   show({(lst S V R0 S.pin)with vs:=V.map (fun x=>(x.1,jX pins x.2)),ts:=[],rs:=S1.rs}:St)=_
   rw[hV,hr1];rfl
  rw[show kx (lst S V R0 S.pin) pins ({S1 with pin:=(lst S V R0 S.pin).pin}:St).rs=lst S V (R k) S.pin from eb0]at hs
  obtain⟨s1,_,hkl⟩:=h3.stays hit hl1 (prot2 _ (by omega))
  have hl:A.heap[l]?=some (.loop (rec .ready none)):=s1.trans hL1
  have hy:=run_yield (P:=P) (args:= #[.int .i64 (arg k).1,(arg k).2.2]) hl (by rw[hrec];rfl)
  rw[hrec]at hy
  refine⟨fn,_,assign,body,hy,roundIn_of_wpIn hfn ?_⟩
  have eput:({tmps:=((#[p,q]:Array Nat).zip #[Value.int .i64 (arg k).1,(arg k).2.2]).foldl (fun tmps (x:Nat×Value)=>tmps.setIfInBounds x.1 x.2) a.tmps,defers:=[]}:Act)=(a.put (some p) (.int .i64 (arg k).1)).put (some q) (arg k).2.2:=by
   have:=hS.defers
   cases a
   simp only at this
   subst this
   simp[Act.put]
  have e1:SR ⟨A,g',hs.gl⟩ (lst S V (R k) (pr k)) g' a A:=hs.Y5 (pr k)
  have e2:=(e1.put (d:=p) (x:=.p (.int .i64 (arg k).1)) (v:=.int .i64 (arg k).1) (by simp only[zb,zj]) hp).put (d:=q) (x:=(arg k).2.1) (v:=(arg k).2.2) (hav k _ _) (by rw[St.zfq];exact hq)
  rw[←eput]at e2
  refine wpIn_mono (ZV (r:=some l) (n:=0) hm assign hca (hround k hk) e2) ?_
  rintro e a2 Wa ⟨S2,g1,hq1,hs1⟩
  cases e with
  |normal=>
   obtain⟨hp2,hbody⟩:=hq1
   obtain⟨l1,_,l3⟩:=hs.stays hs1 (Array.getElem?_eq_some_iff.1 hl).1 hkl
   have hlA:=l1.trans hl
   have cA:=hs.comp hs1 (fun t ht=>by rw[hp2];exact hpr k t ht)
   have hbr:=run_beginRound (P:=P) hlA (by rw[hrec])
   have c2:=cA.QS (o':=.loop {rec .ready none with state:=.busy}) hlA rfl rfl l3 hmayL
   obtain⟨Wb,hWb⟩:∃Wb,Wb=Wa.putObj l (.loop {rec .ready none with state:=.busy}):=⟨_,rfl⟩
   have hb2:Wb.heap[l]?=some (.loop {rec .ready none with state:=.busy}):=by rw[hWb];exact World.putObj_heap_same (Array.getElem?_eq_some_iff.1 hlA).1
   have hbo:∀b,b≠l→Wb.heap[b]?=Wa.heap[b]?:=fun b hb=>by rw[hWb];exact World.putObj_heap_other hb
   have hbs:Wb.heap.size=Wa.heap.size:=by rw[hWb];simp only[World.putObj_size]
   have kvb:KV g1 Wa g1 Wb (pr k):=by rw[hWb];exact KV.QS hlA rfl rfl
   have hbout:Wb.os=Wa.os∧Wb.tape=Wa.tape∧Wb.output=Wa.output:=by rw[hWb];exact⟨rfl,rfl,rfl⟩
   rw[←hWb]at c2 hbr
   have e3:=c2.Y5 (pr k)
   rw[St.zif hp2]at e3
   refine⟨_,hbr,wpIn_mono (ZV (r:=some l) (n:=0) hm body hcb hbody e3) ?_⟩
   rintro e a3 W3 ⟨S3,g3,hq3,hs3⟩
   cases e with
   |normal=>
    obtain⟨g4,hs4⟩:=hs3.leR hq3.2
    obtain⟨l4,_,l6⟩:=c2.stays hs4 (Array.getElem?_eq_some_iff.1 hb2).1 l3
    have hl4:=l4.trans hb2
    have c3:=c2.comp hs4 (fun t ht=>hpr k t ht)
    have c4:=c3.QS (o':=.loop (rec .ready none)) hl4 rfl rfl l6 hmayL
    have hrun:=run_endRound (P:=P) none hl4
    rw[hrec]at hrun
    obtain⟨W4,hW4⟩:∃W4,W4=W3.putObj l (.loop (rec .ready none)):=⟨_,rfl⟩
    have h4l:W4.heap[l]?=some (.loop (rec .ready none)):=by rw[hW4];exact World.putObj_heap_same (Array.getElem?_eq_some_iff.1 hl4).1
    have h4o:∀b,b≠l→W4.heap[b]?=W3.heap[b]?:=fun b hb=>by rw[hW4];exact World.putObj_heap_other hb
    have h4s:W4.heap.size=W3.heap.size:=by rw[hW4];simp only[World.putObj_size]
    have h4out:W4.os=W3.os∧W4.tape=W3.tape∧W4.output=W3.output:=by rw[hW4];exact⟨rfl,rfl,rfl⟩
    have kv4:KV g4 W3 g4 W4 (pr k):=by rw[hW4];exact KV.QS hl4 rfl rfl
    rw[←hW4]at c4
    have chain:∀b,b<A.heap.size→g'.K b=.prot→W4.heap[b]?=A.heap[b]?∧g4.fr b=g'.fr b∧g4.K b=.prot:=fun b hb hkb=>by
     obtain⟨q1,q2,q3⟩:=hs.stays hs1 hb hkb
     have hbW:b<Wb.heap.size:=by
      have h9:A.heap.size≤Wa.heap.size:=hs1.mono
      omega
     obtain⟨q4,q5,q6⟩:=c2.stays hs4 hbW q3
     refine⟨?_,q5.trans q2,q6⟩
     by_cases e:b=l
     ·rw[e,h4l,hl]
     ·rw[h4o b e,q4,hbo b e,q1]
    refine⟨_,W4,?_,rfl,lst S [] (nxt k) (pr k),g4,a3,hs.gl,⟨c4.size,c4.defers,c4.slots,c4.roots,c4.ur,c4.ut,fun b hb=>⟨(c4.own b hb).1,?_⟩,fun b hb=>?_,?_,?_,?_,c4.frb,fun b t hkb ht=>?_⟩,rfl,rfl⟩
    ·rw[hW4,hrec];exact hrun
    ·rcases Nat.lt_or_ge b A.heap.size with h9|h9
     ·right
      intro e
      exact hb (chain b h9 e).2.2
     ·exact .inl h9
    ·have h9:b<A.heap.size:=Classical.byContradiction fun hc=>hb (.inl (Nat.not_lt.1 hc))
     have h8:g'.K b=.prot:=Classical.byContradiction fun hc=>hb (.inr hc)
     exact⟨(chain b h9 h8).1,(chain b h9 h8).2.1⟩
    ·exact((hs1.ext.trans kvb.ext).trans hs4.ext).trans kv4.ext
    ·exact⟨h4out.1.trans (hs4.out.1.trans (hbout.1.trans hs1.out.1)),h4out.2.1.trans (hs4.out.2.1.trans (hbout.2.1.trans hs1.out.2.1)),h4out.2.2.trans (hs4.out.2.2.trans (hbout.2.2.trans hs1.out.2.2))⟩
    ·have h9:A.heap.size≤Wa.heap.size:=hs1.mono
     have h8:Wb.heap.size≤W3.heap.size:=hs4.mono
     show A.heap.size≤W4.heap.size
     omega
    ·obtain⟨k1,k2⟩:=hs1.pins b t hkb (by rw[hp2];exact ht)
     obtain⟨k3,k4⟩:=hs4.pins b t k1 ht
     have hbl:b≠l:=fun e=>by rw[e,hkl]at hkb;cases hkb
     exact⟨k3,fun n hn=>Blk.of_heap (h4o b hbl) (k4 n (Blk.of_heap (hbo b hbl) (k2 n hn)))⟩
   |ret=>exact False.elim hq3.elim
   |_=>exact hq3.elim
  |_=>exact hq1.elim
 have ZB:=zl3 nv ex hf hb hres hcaps1 hnv hn hG1 (hiter ⟨W1,g2,h3.gl⟩ l hyield)
 refine⟨l,[mark w.heap.size],W1,{target:=.fn (.func gf) lb,args:= #[.func (.yield l) #[] #[]]},W1,gf,
  #[.func (.yield l) #[] #[]]++lb,W1,?_,?_,fun _ _=>trivial,?_,fun e=>(by cases e),?_⟩
 ·rw[←hW1,hrec,hl0];exact run_enterLoop_outer _ _ _ _ _
 ·simp only[resolve,hgv]
  simp[go_sem]
 ·simp[invoke,go_sem,eg]
 have ea:({a with defers:=[mark w.heap.size]++a.defers}:Act)=jy [mark w.heap.size] a:=by rw[hS.defers];rfl
 rw[ea]
 have elb:lb.toList.toArray=lb:=by simp
 rw[elb]at ZB
 refine CallsIn.mono ZB ?_
 rintro e W2 ⟨⟨v,rfl⟩,S',g',a',hs',hp',hR'⟩
 have c0:=h3.comp hs' (fun t ht=>by rw[hp'];exact hpins t ht)
 have hs:=h3.back c0 (KV.of h3 hs' hp') rfl
 have eb0:kx (lst S V R0 S.pin) pins S'.rs=lst S V S'.rs S.pin:=by
  show({(lst S V R0 S.pin)with vs:=V.map (fun x=>(x.1,jX pins x.2)),ts:=[],rs:=S'.rs}:St)=_
  rw[hV];rfl
 rw[show kx (lst S V R0 S.pin) pins ({S' with pin:=(lst S V R0 S.pin).pin}:St).rs=lst S V S'.rs S.pin from eb0]at hs
 obtain⟨s1,_,hkl⟩:=h3.stays hs' hl1 (prot2 _ (by omega))
 obtain⟨s2,_,hkD⟩:=h3.stays hs' hD1 (prot2 _ (Nat.le_refl _))
 refine⟨none,_,by have:=run_endLoop (P:=P) (s1.trans hL1) (by rw[hrec];simp);rw[hrec]at this;exact this,?_⟩
 exact hrest _ hR' E g' a _ w.heap.size (hs.QS (s1.trans hL1) rfl rfl hkl hmayL) hkD ((World.putObj_heap_other (by omega)).trans (s2.trans hK1)) hmono
end Go.AM
end
section
namespace Go.AM
theorem Qb.zdk [Gi] {P:Program} {x y:Code} {Q:Exit→St→Prop} {S:St}(h:∀E,zN P E x (zeC P y Q) S):Qb P (.seq x y) Q S:=by
 intro E g a w hS
 refine wpIn_seq (wpIn_mono (wpIn_wide.2 (h E g a w hS)) ?_)
 rintro e a' w' ⟨S',g',hq,hs⟩
 cases e with
 |normal=>exact hq E g' a' w' hs
 |_=>exact .inl ⟨S',g',hq,hs⟩
theorem zaY [Gi] {P:Program} {E:Ent} {S:St} {g:Gh} {a:Act} {w:World}(hS:SR E S g a w) {d:Nat} {T e:TypeId} {sz by_:Nat} {ze:Option (List PV)} {dd:TypeDesc} {z bytes:Nat} {zs:List PV}(hT:ty P T=some ⟨.slice e,sz,by_,ze⟩)(hE:ty P e=some ⟨dd,z,bytes,some zs⟩)
  (hall:zs.all PV.one=true) (hzl:zs.length=z) (hb:0<bytes) (hd:d<S.n) {m:Int} {k k':IntKind} (h0:0≤m) (hfit:m*bytes≤140737488355328):
  ∃r w' g',(Instr.makeSlice T (.int k 0) (.int k' m)).run P w=.ok r w'∧SR E ((S.fil ftt (qP [d] [d])).set d (.os [d] z [])) g' (a.put (some d) r) w':=by
 have hu:=zn w hT
 simp only[]at hu
 have hs:=qg w hE
 simp only[]at hs
 obtain⟨i,hi,hib⟩:=X8 hE
 simp only[]at hib
 obtain⟨zv,hz1,hz2⟩:=QU hE rfl
 have hnb:m≤140737488355328:=by
  have:m*1≤m*bytes:=Int.mul_le_mul_of_nonneg_left (by omega) h0
  omega
 have hw:IntKind.i64.wrap m=m:=zaa (by omega) (by omega)
 have hw0:IntKind.i64.wrap 0=0:=zaa (by omega) (by omega)
 have hrun:(Instr.makeSlice T (.int k 0) (.int k' m)).run P w=.ok (.slice (some ⟨w.heap.size,0,none⟩) 0 m.toNat) (w.alloc (.cells ((Array.range (m.toNat*z)).map (fun i=>zv.cells[i%zv.cells.size]!)) e)):=by
  have ht:¬((i.bytes:Int)*m>2^48):=by
   rw[hib,Int.mul_comm];omega
  unfold Instr.makeSlice
  simp only[Sem.run_bind,hu,Result.andThen_ok,asInt,asIntOf,Sem.run_pure,hi,hw,hw0]
  have c1:(decide (m<0) || decide (↑i.bytes*m>2^48) || decide ((0:Int)<0) || decide ((0:Int)>m))=false:=by
   simp only[Bool.or_eq_false_iff,decide_eq_false_iff_not]
   exact⟨⟨⟨by omega,ht⟩,by omega⟩,by omega⟩
  rw[c1]
  simp only[Bool.false_eq_true,if_false,Sem.run_bind,run_askRoom,Result.andThen_ok,hs]
  by_cases hnz:m.toNat*z=0
  ·simp only[hnz,if_true,Sem.run_bind,Sem.run_pure,Result.andThen_ok,newRow,run_newObj]
   have e1:∀f:Nat→Value,(Array.range 0).map f= #[]:=fun f=>by simp
   rw[e1,e1]
   rfl
  ·simp only[hnz,if_false,Sem.run_bind,Sem.run_pure,Result.andThen_ok,hz1,newRow,run_newObj]
   rfl
 obtain⟨arr,harr⟩:∃arr,arr=(Array.range (m.toNat*z)).map (fun i=>zv.cells[i%zv.cells.size]!):=⟨_,rfl⟩
 have hsz:arr.size=m.toNat*z:=by rw[harr];simp
 rw[←harr]at hrun
 have k1:=(hS.alloc (.cells arr e)).filter ftt (qP [d] [d])
 have hp:(g.fil ftt (qP [d] [d])).K w.heap.size=.prot:=by
  rcases Classical.em (g.K w.heap.size=.prot)with e'|e'
  ·show(g.K w.heap.size).fil _ _=_;rw[e'];rfl
  ·have:=(hS.own _ e').1;omega
 have k2:=k1.kQ (b:=w.heap.size) (t:=[d]) hp (.inl hS.mono) (by simp) (fun c hc=>by
  have:=(Gh.qD.1 hc).2
  simp[qP]at this)
 refine⟨_,_,_,hrun,k2.put (x:=.os [d] z []) ?_ hd⟩
 simp only[zb,zj]
 refine⟨.inl ⟨trivial,_,_,rfl⟩,.inr ⟨w.heap.size,0,0,m.toNat,rfl,z6 _ _ _,?_,arr,e,by rw[heap_alloc,if_pos rfl],by rw[hsz];omega⟩⟩
 show g.fr w.heap.size=_
 rw[hS.frb _ (Nat.le_refl _)];omega
theorem zN.znm [Gi] {P:Program} {E:Ent} {Q:Exit→St→Prop} {S:St} {id d:Nat}(i:Nat) {o:Oper} {ops:List Oper}(hi:ops[i]?=some o) {T e:TypeId} {kk:IntKind} {x:Operand}(ho:o.op=.makeSlice T (.const (.int kk 0)) x)(hdst:o.dst=some d)(hgd:o.guard=none)
  (hd1:(ops.take i).all qN=true) (hd2:(ops.drop (i+1)).all qN=true) {sz by_:Nat} {ze:Option (List PV)} {dd:TypeDesc} {z bytes:Nat} {zs:List PV} (hT:ty P T=some ⟨.slice e,sz,by_,ze⟩) (hE:ty P e=some ⟨dd,z,bytes,some zs⟩)
  (hall:zs.all PV.one=true∧zs.length=z∧0<bytes)
  (h:Ze P ops.toArray (ops.take i) {S with ts:=[]} fun S1=>∃m k',S1.ev x=.p (.int k' m)∧0≤m∧m*bytes≤140737488355328∧d<S1.n∧Ze P ops.toArray (ops.drop (i+1)) ((S1.fil ftt (qP [d] [d])).set d (.os [d] z [])) (Q .normal)):zN P E (.region id ops.toArray false) Q S:=by
 intro g a w hS
 refine(wpIn_wide (n:=0)).1 (ZM (K:=fun a' w'=>∃S' g',Q .normal S'∧SR E S' g' a' w') (wpIn_region_list ?_) fun a' w' k=>k)
 show wpListIn Fence.wide 0 P ops.toArray (WV fun a' w'=>∃S' g',Q .normal S'∧SR E S' g' a' w') ops a w
 generalize hoa:ops.toArray=oa at h⊢
 obtain⟨hlt,rfl⟩:=List.getElem?_eq_some_iff.1 hi
 have hsp:ops=ops.take i++ops[i]::ops.drop (i+1):=by rw[←List.drop_eq_getElem_cons hlt,List.take_append_drop]
 generalize ops[i]=o at ho hdst hgd hsp
 rw[hsp]
 refine U5 (ops.take i) (o::ops.drop (i+1)) hd1 h hS.clean ?_
 rintro S1 g1 a1 w1 ⟨m,k',hx,h0,hfit,hd,hrest⟩ hs
 obtain⟨dst,op,tt,pos,after,guard⟩:=o
 simp only at ho hdst hgd
 subst ho
 subst hdst
 subst hgd
 unfold wpListIn
 rw[if_pos (by rfl)]
 unfold Oper.wpIn
 rw[Oper.semAt_eq _ _ _ (fun c=>by simp)]
 refine⟨fun _ _=>trivial,?_⟩
 have hv:=hs.ev x
 rw[hx]at hv
 simp only[zb,zj]at hv
 obtain⟨r,w2,g2,hr,hs2⟩:=zaY hs hT hE hall.1 hall.2.1 hall.2.2 hd (k:=kk) (k':=k') h0 hfit
 have hrun:(execOp a1.eval ⟨some d,.makeSlice T (.const (.int kk 0)) x,tt,pos,after,none⟩).run P w1=.ok (.value r) w2:=by
  have e0:a1.eval (.const (.int kk 0))=.int kk 0:=rfl
  simp only[execOp,e0,hv,Sem.run_bind,hr,Result.andThen_ok,Sem.run_pure]
 rw[hrun]
 exact kN (r:=none) (n:=0) (kL _) (ops.drop (i+1)) _ _ hd2 (QC (K:=Q .normal) (fun S' g' a' w' hk hs=>⟨S',g',hk,hs⟩) (ops.drop (i+1)) hrest hs2)
end Go.AM
end
section
namespace Go.Proofs.YtcgfdhdcihmeeaaGreat
open Go.AM
set_option maxRecDepth 10000
theorem ze4(n:Nat):OkR (List.replicate n blk):=fun k x hx=>by
 have:x=blk:=(List.mem_replicate.1 (List.mem_of_getElem? hx)).2
 subst this
 exact⟨fun h=>absurd h (by decide),fun h=>absurd h (by decide)⟩
theorem zdx {R C i:Nat}(hi:i<R):zk C (List.replicate (R*C) blk) i=List.replicate C blk:=by
 apply List.ext_getElem?
 intro c
 by_cases hc:c<C
 ·have:i*C+c<R*C:=by
   have:(i+1)*C≤R*C:=Nat.mul_le_mul (by omega) (Nat.le_refl _)
   rw[Nat.add_mul]at this
   omega
  rw[va hc]
  simp[hc,this]
 ·rw[List.getElem?_eq_none (by have:=vq (C:=C) (l:=List.replicate (R*C) blk) (k:=i);omega),List.getElem?_eq_none (by simp;omega)]
def yr(R C:Nat)(top:Int)(l:List Cl):Nat→zw
 |0=>List.replicate (R*C) blk
 |i+1=>if top≤(qp C l i).1 then QP R C ((qp C l i).1-top) (qp C l i).2 (l.getD i blk) (yr R C top l i)else yr R C top l i
def y4(C R:Nat)(top:Int)(l:List Cl)(r:Nat):Nat→zw
 |0=>List.replicate C blk
 |i+1=>if top≤(qp C l i).1 then UM C R ((qp C l i).1-top) (qp C l i).2 (l.getD i blk) r (y4 C R top l r i)else y4 C R top l r i
theorem xg(R C:Nat)(top:Int)(l:List Cl)(k:Nat):(yr R C top l k).length=R*C:=by
 induction k with
 |zero=>simp[yr]
 |succ k ih=>
  rw[yr]
  split
  ·rw[zg0,ih]
  ·exact ih
theorem zkf(R C:Nat)(top:Int)(l:List Cl)(k:Nat):OkR (yr R C top l k):=by
 induction k with
 |zero=>exact ze4 _
 |succ k ih=>
  rw[yr]
  split
  ·exact ziW _ _ _ _ _ _ (xg _ _ _ _ _) ih
  ·exact ih
theorem Km(C R:Nat)(top:Int)(l:List Cl)(r k:Nat):(y4 C R top l r k).length=C:=by
 induction k with
 |zero=>simp[y4]
 |succ k ih=>
  rw[y4]
  split
  ·rw[zix,ih]
  ·exact ih
theorem zfm(C R:Nat)(top:Int)(l:List Cl)(r k:Nat):OkR (y4 C R top l r k):=by
 induction k with
 |zero=>exact ze4 _
 |succ k ih=>
  rw[y4]
  split
  ·exact zj4 _ _ _ _ _ _ _ (Km _ _ _ _ _ _) ih
  ·exact ih
theorem zhv(R C:Nat)(top:Int)(l:List Cl)(k:Nat):∀i,i<R→zk C (yr R C top l k) i=y4 C R top l i k:=by
 induction k with
 |zero=>intro i hi;rw[yr,y4];exact zdx hi
 |succ k ih=>
  intro i hi
  have hl:=xg R C top l k
  have ho:∀j,j<R→OkR (zk C (yr R C top l k) j):=fun j hj=>by rw[ih j hj];exact zfm C R top l j k
  rw[yr,y4]
  split
  ·rw[←ih i hi];exact zfx hl hi ho
  ·exact ih i hi
def Wq(R C:Nat)(F:zw):List zw:=(List.range R).map (zk C F)
theorem kR(R C:Nat)(F:zw):(Wq R C F).length=R:=by simp[Wq]
theorem ziH {R C:Nat} {F:zw} {i:Nat}(h:i<R):(Wq R C F)[i]?=some (zk C F i):=by simp[Wq,h]
theorem zjJ {Q:Cl→Prop}(hb:Q blk)(hz:Q ⟨[],0⟩) {R C:Nat} {r c:Int} {x:Cl} {l:zw}(h:∀y∈l,Q y)(hx:Q x):∀y∈QP R C r c x l,Q y:=by
 unfold QP
 split
 ·unfold V4
  split
  ·exact kd (kd (uT (uT h hb) hb) hz) hx
  ·exact kd (uT h hb) hx
 ·exact h
theorem X1 {Q:Cl→Prop}(hb:Q blk)(hz:Q ⟨[],0⟩)(R C:Nat)(top:Int)(l:List Cl)(hl:∀y∈l,Q y):∀k,∀y∈yr R C top l k,Q y
 |0=>fun y hy=>by rw[yr]at hy;rw[(List.mem_replicate.1 hy).2];exact hb
 |k+1=>by
  rw[yr]
  have hg:Q (l.getD k blk):=by
   rw[List.getD_eq_getElem?_getD]
   by_cases h:k<l.length
   ·rw[List.getElem?_eq_getElem h];exact hl _ (List.getElem_mem h)
   ·rw[List.getElem?_eq_none (by omega)];exact hb
  split
  ·exact zjJ hb hz (X1 hb hz R C top l hl k) hg
  ·exact X1 hb hz R C top l hl k
end Go.Proofs.YtcgfdhdcihmeeaaGreat
end
section
namespace Go.AM
def zbS(o:Oper):Bool:=match o.op with
 |.convert .. =>true
 |_=>false
mutual
def wm [Gi](P:Program)(ops:Array Oper)(K:St→Prop):OT→St→Prop
 |.mk [],S=>K S
 |.mk (x::l),S=>w9 P ops K (x::l) S
 |.now i c t,S=>zcu P S c (fun S'=>wm P ops K t S') ops[i]?
def w9 [Gi](P:Program)(ops:Array Oper)(K:St→Prop):List (Nat×OT)→St→Prop
 | [],_=>True
 |(i,t)::l,S=>(match ops[i]? with
  |some o=>Kg (qK P S o) (zbS o)∧match z5 ops S o with
   |some c=>jZ P S o c (wm P ops K t)
   |none=>False
  |none=>False)∧w9 P ops K l S
end
theorem Y6 [Gi] {P:Program} {ops:Array Oper} {K:St→Prop} {S:St}:∀{l:List (Nat×OT)} {i:Nat} {t:OT},w9 P ops K l S→(i,t)∈l→
  ∃o c,ops[i]?=some o∧Kg (qK P S o) (zbS o)∧z5 ops S o=some c∧jZ P S o c (wm P ops K t)
 |(j,u)::l,i,t,h,hm=>by
  simp only[w9]at h
  rcases List.mem_cons.1 hm with e|hm
  ·injection e with e1 e2;subst e1;subst e2
   have h1:=h.1
   cases ho:ops[i]? with
   |none=>rw[ho]at h1;exact h1.elim
   |some o=>
    rw[ho]at h1
    simp only at h1
    cases hg:z5 ops S o with
    |none=>rw[hg]at h1;exact h1.2.elim
    |some c=>rw[hg]at h1;exact⟨o,c,rfl,h1.1,hg,h1.2⟩
  ·exact Y6 h.2 hm
theorem XU [Gi] {P:Program} {ops:Array Oper} {E:Ent} {S:St} {g:Gh} {a:Act} {w:World}(hS:SR E S g a w) {i:Nat} {o:Oper}(hi:ops[i]?=some o) {c:Option Bool}(hc:z5 ops S o=some c)(hd:Kg (qK P S o) (zbS o)) {K:St→Prop}(h:jZ P S o c K)
  {next:Act→World→Prop} {Q:Exit→Act→World→Prop} (hK:∀S' g' a' w',K S'→SR E S' g' a' w'→next a' w'):wpOp P ops Q i (fun a' w'=>kq ops i w w'∧next a' w') a w:=by
 by_cases hx:∃x,o.op=.assign x
 ·obtain⟨x,hx⟩:=hx
  have base:=kU (P:=P) hS hc h (next:=next) (Q:=Q) hK
  have hk:kq ops i w w:=by
   unfold kq;rw[hi]
   refine⟨fun _=>rfl,fun ha=>?_⟩
   exfalso
   obtain⟨dst,op,tt,pos,after,guard⟩:=o
   simp only at hx
   subst hx
   simp[adO,jY,zcz]at ha
  have hrun:(execOp a.eval o).run P w=.ok (.value (a.eval x)) w:=by unfold execOp;rw[hx];rfl
  unfold wpOp
  simp only[hi]
  split
  ·rename_i hw
   rw[if_pos hw]at base
   refine .inl ?_
   unfold Oper.wp at base⊢
   rw[hrun]at base⊢
   exact⟨hk,base⟩
  ·rename_i hw
   rw[if_neg hw]at base
   exact⟨hk,base⟩
 ·have e:Jr o=zbS o:=by
   unfold Jr zbS
   cases ho:o.op<;>first|rfl|exact absurd ⟨_,ho⟩ hx
  exact Ue hS hi hc (by rw[e];exact hd) h hK
theorem VS [Gi] {P:Program} {ops:Array Oper} {Q:Exit→Act→World→Prop} {E:Ent} {K:St→Prop}(hQ:∀S' g' a' w',K S'→SR E S' g' a' w'→Q .normal a' w')(hQp:∀c a w,¬Q (.panic c) a w)
  (hsel:Region.noSelect ops=true):
  ∀(f:Nat) (listed:Array Bool) (t:OT) {S:St} {g:Gh} {a:Act} {w:World},uL ops listed→okT ops f listed t=true→wm P ops K t S→SR E S g a w→wpX P ops Q f listed a w
 |0,listed,.now _ _ _,S,g,a,w,hcl,hok,h,hS=>by cases hok
 |0,listed,.mk l,S,g,a,w,hcl,hok,h,hS=>by
  simp only[okT,Bool.and_eq_true,List.isEmpty_iff]at hok
  obtain⟨rfl,hr⟩:=hok
  exact⟨hr,hQ S g a w (by simpa only[wm]using h) hS⟩
 |f+1,listed,.mk l,S,g,a,w,hcl,hok,h,hS=>by
  simp only[okT,Bool.and_eq_true,beq_iff_eq,List.all_eq_true]at hok
  obtain⟨hr,hall⟩:=hok
  refine⟨fun hn=>?_,fun i hi=>?_⟩
  ·have hl:l=[]:=by rw[hn]at hr;simpa using hr
   subst hl
   exact hQ S g a w (by simpa only[wm]using h) hS
  ·have hcl':=hcl.set hi
   rw[←hr,List.mem_map]at hi
   obtain⟨⟨j,t⟩,hm,rfl⟩:=hi
   have h':w9 P ops K l S:=by
    cases l with
    |nil=>cases hm
    |cons x l=>simpa only[wm]using h
   obtain⟨o,c,ho,hd,hg,hst⟩:=Y6 h' hm
   exact XU (P:=P) hS ho hg hd hst (fun S' g' a' w' hk hs=>VS hQ hQp hsel f _ t hcl' (hall _ hm) hk hs)
 |f+1,listed,.now i c t,S,g,a,w,hcl,hok,h,hS=>by
  simp only[okT,Bool.and_eq_true]at hok
  obtain⟨⟨hr,he⟩,hok⟩:=hok
  have hri:i∈Region.ready .any ops listed:=by simpa using hr
  unfold zc4 at he
  split at he
  ·rename_i oi hio
   simp only[Bool.and_eq_true,Option.isNone_iff_eq_none]at he
   obtain⟨⟨hgu,hpi⟩,hcomp⟩:=he
   simp only[wm,zcu,hio]at h
   unfold zgR at h
   split at h
   ·rename_i r hp
    obtain⟨⟨h1,h2⟩,h3,h4⟩:=h
    have hwt:Region.wanted oi (yielded ops a.tmps)=true:=by unfold Region.wanted;rw[hgu]
    have hval:∃v,YieldsIf P ops (XJ c w) oi v a∧zb g w r.2 v:=by
     unfold zeg at h3
     split at h3
     ·obtain⟨v,hv,hrep⟩:=qI hS hp h1
      exact⟨v,.inl ⟨hwt,fun w' hw'=>by cases hw';exact hv⟩,hrep⟩
     ·by_cases hin:xH S oi r.2=true
      ·obtain⟨v,hv,hrep⟩:=yF hS hp h1 hin
       exact⟨v,.inl ⟨hwt,fun w' _=>hv w'⟩,hrep⟩
      ·obtain⟨v,hv,hrep⟩:=qI hS hp h1
       refine⟨v,.inl ⟨hwt,fun w' hw'=>?_⟩,hrep⟩
       obtain⟨l,rfl⟩:=hw'
       by_cases hld:xC oi=true
       ·obtain⟨dst,op,tt,pos,after,guard⟩:=oi
        unfold xC at hld
        cases op with
        |load t x=>
         simp only[qK,Option.some.injEq]at hp
         subst hp
         have hx:=zo h1.1 (hS.ev x)
         obtain⟨u,hu,_⟩:=yN hS h1.2 hx
         have e1:(execOp a.eval ⟨dst,.load t x,tt,pos,after,guard⟩).run P w=.ok (.value u) w:=zS hu
         rw[e1]at hv
         injection hv with hv _
         injection hv with hv
         subst hv
         exact zS (V9 hS h1.2 hx hu (uB l w).2)
        |_=>cases hld
       ·have hdet:UQ r.2=true:=by
         simp only[Bool.or_eq_true]at h3
         exact(h3.resolve_left hin).resolve_left hld
        obtain⟨v',hv',hrep'⟩:=qI (SR.zjj l hS) hp h1
        rw[vw hS.ur hrep hrep' hdet]
        exact hv'
     ·obtain⟨v,hv,hrep⟩:=yF hS hp h1 h3
      exact⟨v,.inl ⟨hwt,fun w' _=>hv w'⟩,hrep⟩
    obtain⟨v,hy,hrep⟩:=hval
    refine YD (w0:=w) (c:=c) hio (Region.noSelect_spec hsel) hpi hQp f listed a w hcl ?_ hri hy (Yp c w) (VS hQ hQp hsel f _ t (hcl.set hri) hok h4 (hS.qu hrep h2))
    intro j oj hj hji hun
    have hj':j<ops.size:=(Array.getElem?_eq_some_iff.1 hj).1
    have hx:=List.all_eq_true.1 hcomp j (List.mem_range.2 hj')
    simp only[hj,Bool.or_eq_true,beq_iff_eq,hji,hun,Bool.false_eq_true,false_or,Bool.and_eq_true]at hx
    rcases hx with (hx|hx)|hx
    ·exact .inl hx
    ·exact .inr (.inl (by simpa using hx))
    ·exact .inr (.inr (by simpa using hx))
   ·exact h.elim
  ·cases he
theorem zhB [Gi] {P:Program} {ops:Array Oper} {Q:Exit→Act→World→Prop} {E:Ent} {K:St→Prop}(hQ:∀S' g' a' w',K S'→SR E S' g' a' w'→Q .normal a' w')(hQp:∀c a w,¬Q (.panic c) a w)(hsel:Region.noSelect ops=true) {t:OT} {S:St} {g:Gh} {a:Act} {w:World}
  (hok:okT ops ops.size (Array.replicate ops.size false) t=true) (h:wm P ops K t S) (hS:SR E S g a w):wpAny P .any ops Q ops.size (Array.replicate ops.size false) a w:=
 uD _ _ _ _ (VS hQ hQp hsel _ _ t (fun j oj _ hl=>by rw[getD_replicate_false]at hl;cases hl) hok h hS)
theorem zN.tree [Gi] {P:Program} {E:Ent} {Q:Exit→St→Prop} {S:St} {id:Nat} {l:List Oper}(hm:P.follows .mixedOrders=true)(t:OT)(hok:(Region.noSelect l.toArray&&okT l.toArray l.toArray.size (Array.replicate l.toArray.size false) t)=true)
  (h:wm P l.toArray (Q .normal) t {S with ts:=[]}):zN P E (.region id l.toArray true) Q S:=fun g a w hS=>by
 simp only[Bool.and_eq_true]at hok
 have hw1:SR E {S with ts:=[]} g a {w with drawn:=w.drawn+1}:=hS.clean.drew
 refine wp_mono (wp_region_any hm (zhB (Q:=fun e a w=>e=.normal∧∃S' g',Q .normal S'∧SR E S' g' a w) (fun S' g' a' w' k s=>⟨rfl,S',g',k,s⟩) (fun c a w hq=>by cases hq.1) hok.1 hok.2 h hw1)) ?_
 rintro e a' w' ⟨rfl,S',g',hq,hs⟩
 exact⟨S',g',hq,hs⟩
section
variable {P:Program} {S:St}
def zic [Gi](P:Program)(ops:Array Oper)(S:St)(K:St→Prop):Option Oper→Prop
 |some o=>Kg (qK P S o) (zbS o)∧yP P S o K (z5 ops S o)
 |none=>False
def zij [Gi](P:Program)(ops:Array Oper)(K:St→Prop)(t:OT):St→Prop:=fun S=>wm P ops K t S
@[go_sem] theorem zmT [Gi] {ops : Array Oper} {K : St → Prop} {t : OT} : zij P ops K t S = wm P ops K t S := _root_.id rfl
@[go_sem] theorem zoa [Gi] {ops : Array Oper} {K : St → Prop} {i c : Nat} {t : OT} : wm P ops K (.now i c t) S = zcu P S c (zij P ops K t) ops[i]? := by simp only [wm]; rfl
@[go_sem] theorem znV [Gi] {ops : Array Oper} {K : St → Prop} : wm P ops K (.mk []) S = K S := by simp only [wm]
@[go_sem] theorem zm2 [Gi] {ops : Array Oper} {K : St → Prop} {x : Nat × OT} {l : List (Nat × OT)} : wm P ops K (.mk (x :: l)) S = w9 P ops K (x :: l) S := by simp only [wm]
@[go_sem] theorem zmL [Gi] {ops : Array Oper} {K : St → Prop} : w9 P ops K [] S = True := by simp only [w9]
@[go_sem] theorem zlf [Gi] {ops : Array Oper} {K : St → Prop} {i : Nat} {t : OT} {l : List (Nat × OT)} : w9 P ops K ((i, t) :: l) S = (zic P ops S (zij P ops K t) ops[i]? ∧ w9 P ops K l S) := by
 simp only[w9]
 cases ops[i]? with
 |none=>rfl
 |some o=>simp only[zic,yP];cases z5 ops S o<;>rfl
@[go_sem] theorem zlU [Gi] {ops : Array Oper} {K : St → Prop} {o : Oper} : zic P ops S K (some o) = (Kg (qK P S o) (zbS o) ∧ yP P S o K (z5 ops S o)) := rfl
end
attribute [go_sem] zbS
end Go.AM
end
