/- A part of this seat's proofs, by an abstract machine. Conditions: each law's. -/
import Derived.Test.YtfjdbbpimklecaaGreatDoorT30
import Derived.Test.YtfjdbbpimklecaaGreatDoorT17
import Derived.OpenVars
import Derived.Test.YtfjdbbpimklecaaGreatDoorT18
set_option maxRecDepth 10000
namespace Go.AM
section
theorem Ql.zew [Gi] {P:Program} {x y:Code} {Q:Exit→St→Prop} {S:St}(h:∀E,zV P E x (zfS P y Q) S):Ql P (.seq x y) Q S:=by
 intro E g a w hS
 refine wpIn_seq (wpIn_mono (wpIn_wide.2 (h E g a w hS)) ?_)
 rintro e a' w' ⟨S',g',hq,hs⟩
 cases e with
 |normal=>exact hq E g' a' w' hs
 |_=>exact .inl ⟨S',g',hq,hs⟩
theorem zdr [Gi] {P:Program} {E:Ent} {S:St} {g:Gh} {a:Act} {w:World}(hS:SR E S g a w) {d:Nat} {T e:TypeId} {sz by_:Nat} {ze:Option (List PV)} {dd:TypeDesc} {z bytes:Nat} {zs:List PV}(hT:ty P T=some ⟨.slice e,sz,by_,ze⟩)(hE:ty P e=some ⟨dd,z,bytes,some zs⟩)
  (_:zs.all PV.one=true) (_:zs.length=z) (hb:0<bytes) (hd:d<S.n) {m:Int} {k k':IntKind} (h0:0≤m) (hfit:m*bytes≤140737488355328):
  ∃r w' g',(Instr.makeSlice T (.int k 0) (.int k' m)).run P w=.ok r w'∧SR E ((S.fil ftt (Ze [d] [d])).set d (.os [d] z [])) g' (a.put (some d) r) w':=by
 have hu:=zr w hT
 simp only[]at hu
 have hs:=qz w hE
 simp only[]at hs
 obtain⟨i,hi,hib⟩:=zbU hE
 simp only[]at hib
 obtain⟨zv,hz1,hz2⟩:=jd hE rfl
 have hnb:m≤140737488355328:=by
  have:m*1≤m*bytes:=Int.mul_le_mul_of_nonneg_left (by omega) h0
  omega
 have hw:IntKind.i64.wrap m=m:=zaO (by omega) (by omega)
 have hw0:IntKind.i64.wrap 0=0:=zaO (by omega) (by omega)
 have hrun:(Instr.makeSlice T (.int k 0) (.int k' m)).run P w=.ok (.slice (some ⟨w.heap.size,0,none⟩) 0 m.toNat) (w.alloc (.cells ((Array.range (m.toNat*z)).map (fun i=>zv.cells[i%zv.cells.size]!)) e)):=by
  have ht:¬((i.bytes:Int)*m>2^48):=by
   rw[hib,Int.mul_comm];omega
  unfold Instr.makeSlice
  simp only[Sem.run_bind,hu,Result.andThen_ok,asInt,asIntOf,Sem.run_pure,hi,hw,hw0]
  have c1:(decide (m<0) || decide (↑i.bytes*m>2^48) || decide ((0:Int)<0) || decide ((0:Int)>m))=false:=by
   simp only[Bool.or_eq_false_iff,decide_eq_false_iff_not]
   exact⟨⟨⟨by omega,ht⟩,by omega⟩,by omega⟩
  rw[c1]
  simp only[Bool.false_eq_true,if_false,Sem.run_bind,run_askRoom,Result.andThen_ok,hs]
  by_cases hnz:m.toNat*z=0
  ·simp only[hnz,if_true,Sem.run_bind,Sem.run_pure,Result.andThen_ok,newRow,run_newObj]
   have e1:∀f:Nat→Value,(Array.range 0).map f= #[]:=fun f=>by simp
   rw[e1,e1]
   rfl
  ·simp only[hnz,if_false,Sem.run_bind,Sem.run_pure,Result.andThen_ok,hz1,newRow,run_newObj]
   rfl
 obtain⟨arr,harr⟩:∃arr,arr=(Array.range (m.toNat*z)).map (fun i=>zv.cells[i%zv.cells.size]!):=⟨_,rfl⟩
 have hsz:arr.size=m.toNat*z:=by rw[harr];simp
 rw[←harr]at hrun
 have k1:=(hS.alloc (.cells arr e)).filter ftt (Ze [d] [d])
 have hp:(g.fil ftt (Ze [d] [d])).K w.heap.size=.prot:=by
  rcases Classical.em (g.K w.heap.size=.prot)with e'|e'
  ·show(g.K w.heap.size).fil _ _=_;rw[e'];rfl
  ·have:=(hS.own _ e').1;omega
 have k2:=k1.yq (b:=w.heap.size) (t:=[d]) hp (.inl hS.mono) (by simp) (fun c hc=>by
  have:=(Gh.qT.1 hc).2
  simp[Ze]at this)
 refine⟨_,_,_,hrun,k2.put (x:=.os [d] z []) ?_ hd⟩
 simp only[zb,zl]
 refine⟨.inl ⟨trivial,_,_,rfl⟩,.inr ⟨w.heap.size,0,0,m.toNat,rfl,qo _ _ _,?_,arr,e,by rw[heap_alloc,if_pos rfl],by rw[hsz];omega⟩⟩
 show g.fr w.heap.size=_
 rw[hS.frb _ (Nat.le_refl _)];omega
theorem zV.zp9 [Gi] {P:Program} {E:Ent} {Q:Exit→St→Prop} {S:St} {id d:Nat}(i:Nat) {o:Oper} {ops:List Oper}(hi:ops[i]?=some o) {T e:TypeId} {kk:IntKind} {x:Operand}(ho:o.op=.makeSlice T (.const (.int kk 0)) x)(hdst:o.dst=some d)(hgd:o.guard=none)
  (hd1:(ops.take i).all Zi=true) (hd2:(ops.drop (i+1)).all Zi=true) {sz by_:Nat} {ze:Option (List PV)} {dd:TypeDesc} {z bytes:Nat} {zs:List PV} (hT:ty P T=some ⟨.slice e,sz,by_,ze⟩) (hE:ty P e=some ⟨dd,z,bytes,some zs⟩)
  (hall:zs.all PV.one=true∧zs.length=z∧0<bytes)
  (h:Zu P ops.toArray (ops.take i) {S with ts:=[]} fun S1=>∃m k',S1.ev x=.p (.int k' m)∧0≤m∧m*bytes≤140737488355328∧d<S1.n∧Zu P ops.toArray (ops.drop (i+1)) ((S1.fil ftt (Ze [d] [d])).set d (.os [d] z [])) (Q .normal)):zV P E (.region id ops.toArray false) Q S:=by
 intro g a w hS
 refine(wpIn_wide (n:=0)).1 (QV (K:=fun a' w'=>∃S' g',Q .normal S'∧SR E S' g' a' w') (wpIn_region_list ?_) fun a' w' k=>k)
 show wpListIn Fence.wide 0 P ops.toArray (U2 fun a' w'=>∃S' g',Q .normal S'∧SR E S' g' a' w') ops a w
 generalize hoa:ops.toArray=oa at h⊢
 obtain⟨hlt,rfl⟩:=List.getElem?_eq_some_iff.1 hi
 have hsp:ops=ops.take i++ops[i]::ops.drop (i+1):=by rw[←List.drop_eq_getElem_cons hlt,List.take_append_drop]
 generalize ops[i]=o at ho hdst hgd hsp
 rw[hsp]
 refine zbQ (ops.take i) (o::ops.drop (i+1)) hd1 h hS.clean ?_
 rintro S1 g1 a1 w1 ⟨m,k',hx,h0,hfit,hd,hrest⟩ hs
 obtain⟨dst,op,tt,pos,after,guard⟩:=o
 simp only at ho hdst hgd
 subst ho
 subst hdst
 subst hgd
 unfold wpListIn
 rw[if_pos (by rfl)]
 unfold Oper.wpIn
 rw[Oper.semAt_eq _ _ _ (fun c=>by simp)]
 refine⟨fun _ _=>trivial,?_⟩
 have hv:=hs.ev x
 rw[hx]at hv
 simp only[zb,zl]at hv
 obtain⟨r,w2,g2,hr,hs2⟩:=zdr hs hT hE hall.1 hall.2.1 hall.2.2 hd (k:=kk) (k':=k') h0 hfit
 have hrun:(execOp a1.eval ⟨some d,.makeSlice T (.const (.int kk 0)) x,tt,pos,after,none⟩).run P w1=.ok (.value r) w2:=by
  have e0:a1.eval (.const (.int kk 0))=.int kk 0:=rfl
  simp only[execOp,e0,hv,Sem.run_bind,hr,Result.andThen_ok,Sem.run_pure]
 rw[hrun]
 exact xV (r:=none) (n:=0) (we _) (ops.drop (i+1)) _ _ hd2 (jE (K:=Q .normal) (fun S' g' a' w' hk hs=>⟨S',g',hk,hs⟩) (ops.drop (i+1)) hrest hs2)
end
end Go.AM
namespace Go.Proofs.YtfjdbbpimklecaaGreatDoor
section
open Go.AM
theorem zf2(n:Nat):OkR (List.replicate n blk):=fun k x hx=>by
 have:x=blk:=(List.mem_replicate.1 (List.mem_of_getElem? hx)).2
 subst this
 exact⟨fun h=>absurd h (by decide),fun h=>absurd h (by decide)⟩
theorem JM {R C i:Nat}(hi:i<R):zm C (List.replicate (R*C) blk) i=List.replicate C blk:=by
 apply List.ext_getElem?
 intro c
 by_cases hc:c<C
 ·have:i*C+c<R*C:=by
   have:(i+1)*C≤R*C:=Nat.mul_le_mul (by omega) (Nat.le_refl _)
   rw[Nat.add_mul]at this
   omega
  rw[vI hc]
  simp[hc,this]
 ·rw[List.getElem?_eq_none (by have:=vD (C:=C) (l:=List.replicate (R*C) blk) (k:=i);omega),List.getElem?_eq_none (by simp;omega)]
def yW(R C:Nat)(top:Int)(l:List Cl):Nat→zt
 |0=>List.replicate (R*C) blk
 |i+1=>if top≤(qu C l i).1 then Q9 R C ((qu C l i).1-top) (qu C l i).2 (l.getD i blk) (yW R C top l i)else yW R C top l i
def wg(C R:Nat)(top:Int)(l:List Cl)(r:Nat):Nat→zt
 |0=>List.replicate C blk
 |i+1=>if top≤(qu C l i).1 then KF C R ((qu C l i).1-top) (qu C l i).2 (l.getD i blk) r (wg C R top l r i)else wg C R top l r i
theorem x6(R C:Nat)(top:Int)(l:List Cl)(k:Nat):(yW R C top l k).length=R*C:=by
 induction k with
 |zero=>simp[yW]
 |succ k ih=>
  rw[yW]
  split
  ·rw[zie,ih]
  ·exact ih
theorem zmg(R C:Nat)(top:Int)(l:List Cl)(k:Nat):OkR (yW R C top l k):=by
 induction k with
 |zero=>exact zf2 _
 |succ k ih=>
  rw[yW]
  split
  ·exact zi3 _ _ _ _ _ _ (x6 _ _ _ _ _) ih
  ·exact ih
theorem Jt(C R:Nat)(top:Int)(l:List Cl)(r k:Nat):(wg C R top l r k).length=C:=by
 induction k with
 |zero=>simp[wg]
 |succ k ih=>
  rw[wg]
  split
  ·rw[ziU,ih]
  ·exact ih
theorem zgX(C R:Nat)(top:Int)(l:List Cl)(r k:Nat):OkR (wg C R top l r k):=by
 induction k with
 |zero=>exact zf2 _
 |succ k ih=>
  rw[wg]
  split
  ·exact zmv _ _ _ _ _ _ _ (Jt _ _ _ _ _ _) ih
  ·exact ih
theorem zks(R C:Nat)(top:Int)(l:List Cl)(k:Nat):∀i,i<R→zm C (yW R C top l k) i=wg C R top l i k:=by
 induction k with
 |zero=>intro i hi;rw[yW,wg];exact JM hi
 |succ k ih=>
  intro i hi
  have hl:=x6 R C top l k
  have ho:∀j,j<R→OkR (zm C (yW R C top l k) j):=fun j hj=>by rw[ih j hj];exact zgX C R top l j k
  rw[yW,wg]
  split
  ·rw[←ih i hi];exact zir hl hi ho
  ·exact ih i hi
def Qh(R C:Nat)(F:zt):List zt:=(List.range R).map (zm C F)
theorem jF(R C:Nat)(F:zt):(Qh R C F).length=R:=by simp[Qh]
theorem zkH {R C:Nat} {F:zt} {i:Nat}(h:i<R):(Qh R C F)[i]?=some (zm C F i):=by simp[Qh,h]
theorem JG {R C:Nat} {F:zt} {i:Nat}(h:i<R):(Qh R C F).getD i []=zm C F i:=by simp[Qh,h]
theorem XC {R C:Nat} {F:zt}(hF:F.length=R*C):∀a∈Qh R C F,a.length=C:=fun a ha=>by
 obtain⟨i,hi,rfl⟩:=List.mem_map.1 ha
 exact ZA hF (List.mem_range.1 hi)
theorem zm4 {Q:Cl→Prop}(hb:Q blk)(hz:Q ⟨[],0⟩) {R C:Nat} {r c:Int} {x:Cl} {l:zt}(h:∀y∈l,Q y)(hx:Q x):∀y∈Q9 R C r c x l,Q y:=by
 unfold Q9
 split
 ·unfold V5
  split
  ·exact kG (kG (WN (WN h hb) hb) hz) hx
  ·exact kG (WN h hb) hx
 ·exact h
theorem zbD {Q:Cl→Prop}(hb:Q blk)(hz:Q ⟨[],0⟩)(R C:Nat)(top:Int)(l:List Cl)(hl:∀y∈l,Q y):∀k,∀y∈yW R C top l k,Q y
 |0=>fun y hy=>by rw[yW]at hy;rw[(List.mem_replicate.1 hy).2];exact hb
 |k+1=>by
  rw[yW]
  have hg:Q (l.getD k blk):=by
   rw[List.getD_eq_getElem?_getD]
   by_cases h:k<l.length
   ·rw[List.getElem?_eq_getElem h];exact hl _ (List.getElem_mem h)
   ·rw[List.getElem?_eq_none (by omega)];exact hb
  split
  ·exact zm4 hb hz (zbD hb hz R C top l hl k) hg
  ·exact zbD hb hz R C top l hl k
end
end Go.Proofs.YtfjdbbpimklecaaGreatDoor
namespace Go.AM
section
def zeb(o:Oper):Bool:=match o.op with
 |.convert .. =>true
 |_=>false
mutual
def wY [Gi](P:Program)(ops:Array Oper)(K:St→Prop):OT→St→Prop
 |.mk [],S=>K S
 |.mk (x::l),S=>vY P ops K (x::l) S
 |.now i c t,S=>zdE P S c (fun S'=>wY P ops K t S') ops[i]?
def vY [Gi](P:Program)(ops:Array Oper)(K:St→Prop):List (Nat×OT)→St→Prop
 | [],_=>True
 |(i,t)::l,S=>(match ops[i]? with
  |some o=>J1 (Zb P S o) (zeb o)∧match qj ops S o with
   |some c=>jP P S o c (wY P ops K t)
   |none=>False
  |none=>False)∧vY P ops K l S
end
theorem X6 [Gi] {P:Program} {ops:Array Oper} {K:St→Prop} {S:St}:∀{l:List (Nat×OT)} {i:Nat} {t:OT},vY P ops K l S→(i,t)∈l→
  ∃o c,ops[i]?=some o∧J1 (Zb P S o) (zeb o)∧qj ops S o=some c∧jP P S o c (wY P ops K t)
 |(j,u)::l,i,t,h,hm=>by
  simp only[vY]at h
  rcases List.mem_cons.1 hm with e|hm
  ·injection e with e1 e2;subst e1;subst e2
   have h1:=h.1
   cases ho:ops[i]? with
   |none=>rw[ho]at h1;exact h1.elim
   |some o=>
    rw[ho]at h1
    simp only at h1
    cases hg:qj ops S o with
    |none=>rw[hg]at h1;exact h1.2.elim
    |some c=>rw[hg]at h1;exact⟨o,c,rfl,h1.1,hg,h1.2⟩
  ·exact X6 h.2 hm
theorem zbh [Gi] {P:Program} {ops:Array Oper} {E:Ent} {S:St} {g:Gh} {a:Act} {w:World}(hS:SR E S g a w) {i:Nat} {o:Oper}(hi:ops[i]?=some o) {c:Option Bool}(hc:qj ops S o=some c)(hd:J1 (Zb P S o) (zeb o)) {K:St→Prop}(h:jP P S o c K)
  {next:Act→World→Prop} {Q:Exit→Act→World→Prop} (hK:∀S' g' a' w',K S'→SR E S' g' a' w'→next a' w'):wpOp P ops Q i (fun a' w'=>yd ops i w w'∧next a' w') a w:=by
 by_cases hx:∃x,o.op=.assign x
 ·obtain⟨x,hx⟩:=hx
  have base:=yH (P:=P) hS hc h (next:=next) (Q:=Q) hK
  have hk:yd ops i w w:=by
   unfold yd;rw[hi]
   refine⟨fun _=>rfl,fun ha=>?_⟩
   exfalso
   obtain⟨dst,op,tt,pos,after,guard⟩:=o
   simp only at hx
   subst hx
   simp[adO,kM,zca]at ha
  have hrun:(execOp a.eval o).run P w=.ok (.value (a.eval x)) w:=by unfold execOp;rw[hx];rfl
  unfold wpOp
  simp only[hi]
  split
  ·rename_i hw
   rw[if_pos hw]at base
   refine .inl ?_
   unfold Oper.wp at base⊢
   rw[hrun]at base⊢
   exact⟨hk,base⟩
  ·rename_i hw
   rw[if_neg hw]at base
   exact⟨hk,base⟩
 ·have e:YZ o=zeb o:=by
   unfold YZ zeb
   cases ho:o.op<;>first|rfl|exact absurd ⟨_,ho⟩ hx
  exact Kr hS hi hc (by rw[e];exact hd) h hK
theorem Uj [Gi] {P:Program} {ops:Array Oper} {Q:Exit→Act→World→Prop} {E:Ent} {K:St→Prop}(hQ:∀S' g' a' w',K S'→SR E S' g' a' w'→Q .normal a' w')(hQp:∀c a w,¬Q (.panic c) a w)
  (hsel:Region.noSelect ops=true):
  ∀(f:Nat) (listed:Array Bool) (t:OT) {S:St} {g:Gh} {a:Act} {w:World},wm ops listed→okT ops f listed t=true→wY P ops K t S→SR E S g a w→wpX P ops Q f listed a w
 |0,listed,.now _ _ _,S,g,a,w,hcl,hok,h,hS=>by cases hok
 |0,listed,.mk l,S,g,a,w,hcl,hok,h,hS=>by
  simp only[okT,Bool.and_eq_true,List.isEmpty_iff]at hok
  obtain⟨rfl,hr⟩:=hok
  exact⟨hr,hQ S g a w (by simpa only[wY]using h) hS⟩
 |f+1,listed,.mk l,S,g,a,w,hcl,hok,h,hS=>by
  simp only[okT,Bool.and_eq_true,beq_iff_eq,List.all_eq_true]at hok
  obtain⟨hr,hall⟩:=hok
  refine⟨fun hn=>?_,fun i hi=>?_⟩
  ·have hl:l=[]:=by rw[hn]at hr;simpa using hr
   subst hl
   exact hQ S g a w (by simpa only[wY]using h) hS
  ·have hcl':=hcl.set hi
   rw[←hr,List.mem_map]at hi
   obtain⟨⟨j,t⟩,hm,rfl⟩:=hi
   have h':vY P ops K l S:=by
    cases l with
    |nil=>cases hm
    |cons x l=>simpa only[wY]using h
   obtain⟨o,c,ho,hd,hg,hst⟩:=X6 h' hm
   exact zbh (P:=P) hS ho hg hd hst (fun S' g' a' w' hk hs=>Uj hQ hQp hsel f _ t hcl' (hall _ hm) hk hs)
 |f+1,listed,.now i c t,S,g,a,w,hcl,hok,h,hS=>by
  simp only[okT,Bool.and_eq_true]at hok
  obtain⟨⟨hr,he⟩,hok⟩:=hok
  have hri:i∈Region.ready .any ops listed:=by simpa using hr
  unfold zev at he
  split at he
  ·rename_i oi hio
   simp only[Bool.and_eq_true,Option.isNone_iff_eq_none]at he
   obtain⟨⟨hgu,hpi⟩,hcomp⟩:=he
   simp only[wY,zdE,hio]at h
   unfold zhi at h
   split at h
   ·rename_i r hp
    obtain⟨⟨h1,h2⟩,h3,h4⟩:=h
    have hwt:Region.wanted oi (yielded ops a.tmps)=true:=by unfold Region.wanted;rw[hgu]
    have hval:∃v,YieldsIf P ops (zbj c w) oi v a∧zb g w r.2 v:=by
     unfold zfO at h3
     split at h3
     ·obtain⟨v,hv,hrep⟩:=q8 hS hp h1
      exact⟨v,.inl ⟨hwt,fun w' hw'=>by cases hw';exact hv⟩,hrep⟩
     ·by_cases hin:wV S oi r.2=true
      ·obtain⟨v,hv,hrep⟩:=xj hS hp h1 hin
       exact⟨v,.inl ⟨hwt,fun w' _=>hv w'⟩,hrep⟩
      ·obtain⟨v,hv,hrep⟩:=q8 hS hp h1
       refine⟨v,.inl ⟨hwt,fun w' hw'=>?_⟩,hrep⟩
       obtain⟨l,rfl⟩:=hw'
       by_cases hld:wT oi=true
       ·obtain⟨dst,op,tt,pos,after,guard⟩:=oi
        unfold wT at hld
        cases op with
        |load t x=>
         simp only[Zb,Option.some.injEq]at hp
         subst hp
         have hx:=zu h1.1 (hS.ev x)
         obtain⟨u,hu,_⟩:=xd hS h1.2 hx
         have e1:(execOp a.eval ⟨dst,.load t x,tt,pos,after,guard⟩).run P w=.ok (.value u) w:=zX hu
         rw[e1]at hv
         injection hv with hv _
         injection hv with hv
         subst hv
         exact zX (Kk hS h1.2 hx hu (WO l w).2)
        |_=>cases hld
       ·have hdet:KN r.2=true:=by
         simp only[Bool.or_eq_true]at h3
         exact(h3.resolve_left hin).resolve_left hld
        obtain⟨v',hv',hrep'⟩:=q8 (SR.zjl l hS) hp h1
        rw[uC hS.ur hrep hrep' hdet]
        exact hv'
     ·obtain⟨v,hv,hrep⟩:=xj hS hp h1 h3
      exact⟨v,.inl ⟨hwt,fun w' _=>hv w'⟩,hrep⟩
    obtain⟨v,hy,hrep⟩:=hval
    refine zam (w0:=w) (c:=c) hio (Region.noSelect_spec hsel) hpi hQp f listed a w hcl ?_ hri hy (XO c w) (Uj hQ hQp hsel f _ t (hcl.set hri) hok h4 (hS.qE hrep h2))
    intro j oj hj hji hun
    have hj':j<ops.size:=(Array.getElem?_eq_some_iff.1 hj).1
    have hx:=List.all_eq_true.1 hcomp j (List.mem_range.2 hj')
    simp only[hj,Bool.or_eq_true,beq_iff_eq,hji,hun,Bool.false_eq_true,false_or,Bool.and_eq_true]at hx
    rcases hx with (hx|hx)|hx
    ·exact .inl hx
    ·exact .inr (.inl (by simpa using hx))
    ·exact .inr (.inr (by simpa using hx))
   ·exact h.elim
  ·cases he
theorem zlj [Gi] {P:Program} {ops:Array Oper} {Q:Exit→Act→World→Prop} {E:Ent} {K:St→Prop}(hQ:∀S' g' a' w',K S'→SR E S' g' a' w'→Q .normal a' w')(hQp:∀c a w,¬Q (.panic c) a w)(hsel:Region.noSelect ops=true) {t:OT} {S:St} {g:Gh} {a:Act} {w:World}
  (hok:okT ops ops.size (Array.replicate ops.size false) t=true) (h:wY P ops K t S) (hS:SR E S g a w):wpAny P .any ops Q ops.size (Array.replicate ops.size false) a w:=
 Ws _ _ _ _ (Uj hQ hQp hsel _ _ t (fun j oj _ hl=>by rw[getD_replicate_false]at hl;cases hl) hok h hS)
theorem zV.tree [Gi] {P:Program} {E:Ent} {Q:Exit→St→Prop} {S:St} {id:Nat} {l:List Oper}(hm:P.follows .mixedOrders=true)(t:OT)(hok:(Region.noSelect l.toArray&&okT l.toArray l.toArray.size (Array.replicate l.toArray.size false) t)=true)
  (h:wY P l.toArray (Q .normal) t {S with ts:=[]}):zV P E (.region id l.toArray true) Q S:=fun g a w hS=>by
 simp only[Bool.and_eq_true]at hok
 have hw1:SR E {S with ts:=[]} g a {w with drawn:=w.drawn+1}:=hS.clean.drew
 refine wp_mono (wp_region_any hm (zlj (Q:=fun e a w=>e=.normal∧∃S' g',Q .normal S'∧SR E S' g' a w) (fun S' g' a' w' k s=>⟨rfl,S',g',k,s⟩) (fun c a w hq=>by cases hq.1) hok.1 hok.2 h hw1)) ?_
 rintro e a' w' ⟨rfl,S',g',hq,hs⟩
 exact⟨S',g',hq,hs⟩
section
variable {P:Program} {S:St}
def zi9 [Gi](P:Program)(ops:Array Oper)(S:St)(K:St→Prop):Option Oper→Prop
 |some o=>J1 (Zb P S o) (zeb o)∧xv P S o K (qj ops S o)
 |none=>False
def zi4 [Gi](P:Program)(ops:Array Oper)(K:St→Prop)(t:OT):St→Prop:=fun S=>wY P ops K t S
@[go_sem] theorem zpx [Gi] {ops : Array Oper} {K : St → Prop} {t : OT} : zi4 P ops K t S = wY P ops K t S := _root_.id rfl
@[go_sem] theorem zpD [Gi] {ops : Array Oper} {K : St → Prop} {i c : Nat} {t : OT} : wY P ops K (.now i c t) S = zdE P S c (zi4 P ops K t) ops[i]? := by simp only [wY]; rfl
@[go_sem] theorem zp0 [Gi] {ops : Array Oper} {K : St → Prop} : wY P ops K (.mk []) S = K S := by simp only [wY]
@[go_sem] theorem zo9 [Gi] {ops : Array Oper} {K : St → Prop} {x : Nat × OT} {l : List (Nat × OT)} : wY P ops K (.mk (x :: l)) S = vY P ops K (x :: l) S := by simp only [wY]
@[go_sem] theorem zpu [Gi] {ops : Array Oper} {K : St → Prop} : vY P ops K [] S = True := by simp only [vY]
@[go_sem] theorem znD [Gi] {ops : Array Oper} {K : St → Prop} {i : Nat} {t : OT} {l : List (Nat × OT)} : vY P ops K ((i, t) :: l) S = (zi9 P ops S (zi4 P ops K t) ops[i]? ∧ vY P ops K l S) := by
 simp only[vY]
 cases ops[i]? with
 |none=>rfl
 |some o=>simp only[zi9,xv];cases qj ops S o<;>rfl
@[go_sem] theorem zoa [Gi] {ops : Array Oper} {K : St → Prop} {o : Oper} : zi9 P ops S K (some o) = (J1 (Zb P S o) (zeb o) ∧ xv P S o K (qj ops S o)) := rfl
end
attribute [go_sem] zeb
end
section
open Go.ChangeShapes Go.RowKit
def Yes:AV→List (Tok×List AV)→Prop:=fun x rs=>rs=[]∧x=.p (.bool true)
theorem Value.zhk {v:Value}(h:v.oneCell'=true):v.cells.toList=[v]:=by
 cases v<;>simp_all [Value.oneCell',Value.cells]
theorem zli {P:Program} {w:World} {r:Reach} {base:Nat} {t:TypeId} {v:Value}(h:Cell.okWide P w r base t v):v.oneCell'=true:=by
 unfold Cell.okWide at h
 split at h<;>try rfl
 all_goals unfold Cell.ok at h;split at h<;>first|rfl|exact h.elim
theorem zet {P:Program} {w:World} {r:Reach} {base:Nat} {t:TypeId} {v:Value}(h:Value.okWide P w r base t v)(hf:(match P.underlying t with|some (.struct _)=>false|some (.array _ _)=>false|_=>true)=true):v.oneCell'=true:=by
 unfold Value.okWide at h
 split at h
 ·rename_i e;rw[e]at hf;cases hf
 ·rename_i e;rw[e]at hf;cases hf
 ·exact zli h
section
variable {H:Type} {enc:TypeId×Value→H} {P:Program}
def zni(enc:TypeId×Value→H)(P:Program)(t:TypeId)(Q:PV→Prop):Prop:=
 ∀(W:World) (base:Nat) (v:Value) (d:DataW H) (p:List MemPlace),Value.okWide P W .any base t v→DataW.Trod enc P W 0 (fun _=>true) true t v d p→∃x,Q x∧zl (frW W) W x v
theorem yi {t:TypeId} {Q:PV→Prop}(hf:(match P.underlying t with|some (.struct _)=>false|some (.array _ _)=>false|_=>true)=true)(h:∀W,kK enc P W 0 (fun _=>true) true t fun xs=>∃x,xs=[x]∧Q x):zni enc P t Q:=by
 intro W base v d p ho ht
 obtain⟨fuel,ht⟩:=ht
 obtain⟨xs,⟨x,rfl,q⟩,r⟩:=h W _ _ _ ht
 have h1:=zet ho hf
 rw[Value.zhk h1]at r
 simp only[zw]at r
 obtain⟨v',vs',e,_,r,_⟩:=r
 injection e with e;subst e
 exact⟨x,q,r⟩
def zbm(enc:TypeId×Value→H)(P:Program):List TypeId→List (PV→Prop)→Prop
 | [],[]=>True
 |t::ts,Q::Qs=>zni enc P t Q∧zbm enc P ts Qs
 |_,_=>False
def zoD:List (PV→Prop)→List PV→Prop
 | [],[]=>True
 |Q::Qs,x::xs=>Q x∧zoD Qs xs
 |_,_=>False
theorem Xw {W:World} {base:Nat} {g:Gh}(hg:g.fr=frW W):∀{ts:List TypeId} {Qs:List (PV→Prop)} {vs:List Value} {ds:List (DataW H)} {p:List MemPlace},zbm enc P ts Qs→
  (∀(j:Nat) t v,ts[j]?=some t→vs[j]?=some v→Value.okWide P W .any base t v)→DataW.TrodAll enc P W 0 (fun _=>true) true ts vs ds p→∃xs,zoD Qs xs∧zo g W (xs.map .p) vs
 | [],[],[],_,_,_,_,_=>⟨[],trivial,by simp[zo]⟩
 | [],[],_::_,_,_,_,_,h=>h.elim
 | [],_::_,_,_,_,h,_,_=>h.elim
 |_::_,[],_,_,_,h,_,_=>h.elim
 |_::_,_::_,[],_,_,_,_,h=>by simp[DataW.TrodAll]at h
 |_::_,_::_,_::_,[],_,_,_,h=>by simp[DataW.TrodAll]at h
 |t::ts,Q::Qs,v::vs,d::ds,p,ha,ho,h=>by
  obtain⟨p',q',h1,h2,rfl⟩:=h
  obtain⟨x,qx,rx⟩:=ha.1 W base v d p' (ho 0 t v rfl rfl) h1
  obtain⟨xs,qs,rs⟩:=Xw hg ha.2 (fun j t' v' e1 e2=>ho (j+1) t' v' e1 e2) h2
  refine⟨x::xs,⟨qx,qs⟩,?_⟩
  simp only[List.map_cons,zo]
  exact⟨v,vs,rfl,by simp only[zb];rw[hg];exact rx,rs⟩
theorem Wd(hl:laidOutB P=true) {W W':World} {sp:Nat→Bool}(hb:Below W.heap.size W W'):∀{ts:List TypeId} {vs:List Value} {ds:List (DataW H)} {p:List MemPlace},ts.all (fun t=>P.readableRec t&&decide (t<P.types.size))=true→
  DataW.TrodAll enc P W 0 (fun _=>true) true ts vs ds p→(∀x∈p,x.block<W.heap.size∧sp x.block=true)→DataW.TrodAll enc P W' 0 sp true ts vs ds p
 | [],[],[],_,_,h,_=>h
 | [],[],_::_,_,_,h,_=>h.elim
 | [],_::_,_,_,_,h,_=>h.elim
 |_::_,[],_,_,_,h,_=>h.elim
 |_::_,_::_,[],_,_,h,_=>h.elim
 |t::ts,v::vs,d::ds,p,hr,h,hlt=>by
  obtain⟨p',q',h1,h2,rfl⟩:=h
  simp only[List.all_cons,Bool.and_eq_true,decide_eq_true_eq]at hr
  refine⟨p',q',WideElems.Trod_stays hl hr.1.1 hr.1.2 h1 (fun x hx=>hb.same (hlt x (by simp[hx])).1) (fun x hx=>(hlt x (by simp[hx])).2),Wd hl hb hr.2 h2 (fun x hx=>hlt x (by simp[hx])),rfl⟩
theorem zkh {f:Func} {s:ChangeSpec} {apart fresh handsOn again:Bool} {W W':World} {args:Array Value} {ds gs:List (DataW H)} {before:List MemPlace} {tb:TypeId}
  (hl:laidOutB P=true) (hb:Below W.heap.size W W') (hW:DataW.Whole enc P f.params.toList s.vars apart W args.toList ds gs before) (hv:s.vars=[]) (hgs:gs=[])
  (hr:f.params.toList.all (fun t=>P.readableRec t&&decide (t<P.types.size))=true) (ht:f.resultTypes= #[tb]) (hbo:P.underlying tb=some .bool)
  (h1:(s.fn H (ds++gs)).results=[.lit (.bool true)]) (h2:(s.fn H (ds++gs)).args=ds) (h3:(s.fn H (ds++gs)).vars=[]):
  s.post enc P f apart fresh handsOn again W args (.bool true) W':=by
 have hlt:∀x∈before,x.block<W.heap.size:=fun p hp=>by simpa using hW.lt p hp
 have hW':=hW
 obtain⟨p,q,hA,hV,rfl,hz,hn⟩:=hW
 have hq:q=[]:=by
  rw[hv,hgs]at hV
  exact hV
 subst hq
 have hres:∀(b:Nat) (sp:Nat→Bool) (hd:Bool),DataW.TrodAll enc P W' b sp hd f.resultTypes.toList ((Value.bool true).resultList f.resultTypes.size) [.lit (.bool true)] []:=by
  intro b sp hd
  rw[ht]
  show DataW.TrodAll enc P W' b sp hd [tb] [.bool true] _ _
  exact⟨[],[],shut_bool hbo true,rfl,rfl⟩
 have hargs:∀sp:Nat→Bool,(∀x∈p++[],sp x.block=true)→DataW.TrodAll enc P W' 0 sp true f.params.toList args.toList ds p:=fun sp hsp=>
  Wd hl hb hr hA (fun x hx=>⟨hlt x (by simp[hx]),hsp x (by simp[hx])⟩)
 refine⟨ds,gs,p++[],[],p,[],hW',?_,?_,?_,hb.frame _,fun _=>⟨?_,?_⟩⟩
 ·rw[h1];exact hres _ _ _
 ·rw[h2];exact hargs _ fun x hx=>by simpa using hlt x hx
 ·rw[h3,hv];exact rfl
 ·intro j t' r hj hvj
  rw[ht]at hj hvj
  match j,hj,hvj with
  |0,hj,hvj=>
   simp[Value.resultList]at hj hvj
   subst hj;subst hvj
   simp[Value.okWide,hbo,Cell.okWide,Cell.ok]
  |j+1,hj,_=>simp at hj
 ·refine⟨_,_,([]++p)++[],⟨[]++p,[],trodAll_append (hargs _ (fun _ _=>rfl)) (hres _ _ _),(by rw[hv];exact rfl:DataW.TrodVars enc P W' (fun _=>true) s.vars [] []),rfl,?_,?_⟩,?_⟩
  ·intro b off hp
   rw[hb.frozen (hlt _ (by simpa using hp))]
   exact hz b off (by simpa using hp)
  ·intro ha
   simpa using hn ha
  ·intro x hx _
   simpa using hx
theorem uo [Gi] {C:Checked} {fn:Func} {n:FuncId} {s:ChangeSpec} {apart fresh handsOn again:Bool} {Qs:List (PV→Prop)} {tb:TypeId}(hl:laidOutB C.prog=true)(hv:s.vars=[])
  (hr:fn.params.toList.all (fun t=>C.prog.readableRec t&&decide (t<C.prog.types.size))=true) (ht:fn.resultTypes= #[tb]) (hbo:C.prog.underlying tb=some .bool)
  (hs:∀ds:List (DataW H),ds.length=fn.params.size→s.fn H ds={results:=[.lit (.bool true)],args:=ds})
  (hQ:zbm enc C.prog fn.params.toList Qs) (hC:∀xs,zoD Qs xs→CR C.prog n [] (xs.map .p) [] Yes)
  (W:World) (base:Nat) (args:Array Value) (ds gs:List (DataW H)) (before:List MemPlace)
  (hval:∀(j:Nat) t v,fn.params[j]?=some t→args[j]?=some v→Value.okWide C.prog W .any base t v)
  (hW:DataW.Whole enc C.prog fn.params.toList s.vars apart W args.toList ds gs before) (hgl:Y1 ⟨frW W,fun _=>.prot⟩ W):
  Calls C.prog n args W fun e W'=>∃v,e=.returned v∧s.post enc C.prog fn apart fresh handsOn again W args v W':=by
 have hW0:=hW
 obtain⟨p,q,hA,hV,_,_,_⟩:=hW
 have hgs:gs=[]:=by
  rw[hv]at hV
  cases gs with
  |nil=>rfl
  |cons _ _=>exact hV.elim
 obtain⟨xs,qx,rx⟩:=Xw (g:=⟨frW W,fun _=>.prot⟩) rfl hQ (fun j t v e1 e2=>hval j t v (by simpa using e1) (by simpa using e2)) hA
 have hG:GS ⟨frW W,fun _=>.prot⟩ W []:=by
  refine⟨fun b t h=>?_,fun b b' t h=>?_,fun b b' t h=>?_,fun b h=>absurd rfl h,fun b hb=>?_,hgl⟩
  ·cases h
  ·cases h
  ·cases h
  ·show frW W b=0
   have hb':W.heap[b]?=none:=by simpa using hb
   unfold frW
   rw[hb']
 have hc:=hC xs qx W _ _ rx hG
 rw[Array.toArray_toList]at hc
 refine hc.mono ?_
 rintro e W' ⟨v,x,rs',g',rfl,⟨rfl,rfl⟩,r,_,hAft⟩
 simp only[zb,zl]at r
 subst r
 have hB:Below W.heap.size W W':=⟨hAft.out.1,hAft.out.2.1,hAft.out.2.2,hAft.mono,fun k hk=>(hAft.frame k hk rfl).1⟩
 have hlen:ds.length=fn.params.size:=by
  have:∀{ts:List TypeId} {vs:List Value} {ds:List (DataW H)} {p:List MemPlace},DataW.TrodAll enc C.prog W 0 (fun _=>true) true ts vs ds p→ds.length=ts.length:=by
   intro ts
   induction ts with
   |nil=>intro vs ds p h;cases vs<;>cases ds<;>simp_all [DataW.TrodAll]
   |cons t ts ih=>
    intro vs ds p h
    cases vs<;>cases ds<;>simp_all [DataW.TrodAll]
    obtain⟨_,_,_,h2,_⟩:=h
    exact ih h2
  simpa using this hA
 exact⟨_,rfl,zkh hl hB hW0 hv hgs hr ht hbo (by rw[hgs,List.append_nil,hs ds hlen]) (by rw[hgs,List.append_nil,hs ds hlen]) (by rw[hgs,List.append_nil,hs ds hlen])⟩
end
end
section
def ZN(a:Nat):Nat→Nat→(Nat→List AV)→List (Tok×List AV)
 |_,0,_=>[]
 |k,n+1,f=>([a,k],f k)::ZN a (k+1) n f
def fam(a n:Nat)(f:Nat→List AV):List (Tok×List AV):=ZN a 0 n f
def vr(a b:Nat):Nat→Nat→List (Tok×Tok)
 |_,0=>[]
 |k,n+1=>([a,k],[b,k])::vr a b (k+1) n
def wS(a b n:Nat):List (Tok×Tok):=vr a b 0 n
def xO(a:Nat):Nat→Nat→List Tok
 |_,0=>[]
 |k,n+1=>[a,k]::xO a (k+1) n
def J3(a n:Nat):List Tok:=xO a 0 n
def laK(a z m:Nat):Nat→Nat→List AV
 |_,0=>[]
 |k,n+1=>.la [a,k] z 0 m::laK a z m (k+1) n
def laF(a z m n:Nat):List AV:=laK a z m 0 n
def Uv(f:Nat→List AV)(k:Nat)(x:List AV):Nat→List AV:=fun i=>if i=k then x else f i
def inF(a k n:Nat):Tok→Bool
 | [b,i]=>b==a&&decide (k≤i)&&decide (i<k+n)
 |_=>false
theorem xQ(a k:Nat)(t:Tok):inF a k 0 t=false:=by
 unfold inF
 split
 ·rename_i b i
  by_cases h:k≤i
  ·simp[h]
  ·simp[h]
 ·rfl
theorem yS(a k n:Nat)(t:Tok):inF a k (n+1) t=(t== [a,k] || inF a (k+1) n t):=by
 unfold inF
 split
 ·rename_i b i
  by_cases hb:b=a
  ·subst hb
   by_cases hi:i=k
   ·subst hi;simp
   ·have:([b,i]== [b,k])=false:=by simp[hi]
    rw[this]
    simp
    rw[show decide (k≤i)=decide (k+1≤i)from decide_eq_decide.2 (by omega),show k+(n+1)=k+1+n by omega]
  ·have h3:(b==a)=false:=by simpa using hb
   simp[h3]
 ·rename_i hno
  have:(t== [a,k])=false:=by
   simp only[beq_eq_false_iff_ne,ne_eq]
   intro e;exact hno _ _ e
  simp[this]
def noF:Tok→Nat
 | [_,i]=>i
 |_=>0
theorem JA(a:Nat)(f:Nat→List AV)(t:Tok):∀(n k:Nat),zn (ZN a k n f) t=if inF a k n t then some (f (noF t))else none
 |0,k=>by rw[xQ];rfl
 |n+1,k=>by
  rw[yS]
  simp only[ZN,zn,JA a f t n (k+1)]
  by_cases h:[a,k]=t
  ·subst h;simp[noF]
  ·have h2:(t== [a,k])=false:=by simp only[beq_eq_false_iff_ne,ne_eq];exact fun e=>h e.symm
   rw[if_neg h,h2];simp
theorem uw {a n:Nat} {f:Nat→List AV} {t:Tok}:zn (fam a n f) t=if inF a 0 n t then some (f (noF t))else none:=JA a f t n 0
@[go_sem] theorem zlX {a n i : Nat} {f : Nat → List AV} (h : i < n) : zn (fam a n f) [a, i] = some (f i) := by rw [uw]; simp [inF, h, noF]
@[go_sem] theorem znw {a b n : Nat} {f : Nat → List AV} : zn (fam a n f) [b] = none := by rw [uw]; simp [inF]
theorem WM {a:Nat} {f g:Nat→List AV}:∀{n k:Nat},(∀i,k≤i→i<k+n→f i=g i)→ZN a k n f=ZN a k n g
 |0,k,_=>rfl
 |n+1,k,h=>by
  simp only[ZN]
  rw[h k (by omega) (by omega),WM fun i h1 h2=>h i (by omega) (by omega)]
theorem zcg {a:Nat} {f:Nat→List AV} {g:List AV→List AV}:∀{n k:Nat},(ZN a k n f).map (fun x=>(x.1,g x.2))=ZN a k n fun i=>g (f i)
 |0,k=>rfl
 |n+1,k=>by simp only[ZN,List.map_cons,zcg]
@[go_sem] theorem zmy {a n : Nat} {f : Nat → List AV} {h : AV → AV} : (fam a n f).map (fun x => (x.1, List.map h x.2)) = fam a n fun i => (f i).map h := zcg (g := fun l => l.map h)
theorem XD {a:Nat} {f:Nat→List AV} {x:List AV} {j:Nat}:∀{n k:Nat},k≤j→j<k+n→QW (ZN a k n f) [a,j] x=ZN a k n (Uv f j x)
 |0,k,h1,h2=>by omega
 |n+1,k,h1,h2=>by
  simp only[ZN,QW]
  by_cases e:k=j
  ·subst e
   rw[if_pos rfl]
   simp only[Uv,if_true]
   congr 1
   exact WM fun i h3 _=>by rw[Uv,if_neg (show ¬i=k by omega)]
  ·rw[if_neg (by simp[e]),XD (by omega) (by omega)]
   simp only[Uv,if_neg e]
@[go_sem] theorem zjd {a n j : Nat} {f : Nat → List AV} {x : List AV} (h : j < n) : QW (fam a n f) [a, j] x = fam a n (Uv f j x) := XD (by omega) (by omega)
theorem zc4 {a:Nat} {f:Nat→List AV} {t:Tok}:∀{n k:Nat},has (ZN a k n f) t=inF a k n t
 |0,k=>by rw[xQ];rfl
 |n+1,k=>by
  have ih:=zc4 (a:=a) (f:=f) (t:=t) (n:=n) (k:=k+1)
  unfold has at ih⊢
  rw[yS]
  simp only[ZN,List.any_cons,ih]
  congr 1
  exact Bool.beq_comm
theorem zmA {a n:Nat} {f:Nat→List AV} {t:Tok}:has (fam a n f) t=inF a 0 n t:=zc4
theorem UI {a b:Nat} {t:Tok}:∀{n k:Nat},inM (vr a b k n) t=if inF b k n t then some [a,noF t]else none
 |0,k=>by rw[xQ];rfl
 |n+1,k=>by
  rw[yS]
  simp only[vr,inM,UI]
  by_cases h:[b,k]=t
  ·subst h;simp[noF]
  ·have h2:(t== [b,k])=false:=by simp only[beq_eq_false_iff_ne,ne_eq];exact fun e=>h e.symm
   rw[if_neg h,h2];simp
theorem zcC {a b n:Nat} {t:Tok}:inM (wS a b n) t=if inF b 0 n t then some [a,noF t]else none:=UI
theorem vE {a b:Nat} {t:Tok}:∀{n k:Nat},zn (vr a b k n) t=if inF a k n t then some [b,noF t]else none
 |0,k=>by rw[xQ];rfl
 |n+1,k=>by
  rw[yS]
  simp only[vr,zn,vE]
  by_cases h:[a,k]=t
  ·subst h;simp[noF]
  ·have h2:(t== [a,k])=false:=by simp only[beq_eq_false_iff_ne,ne_eq];exact fun e=>h e.symm
   rw[if_neg h,h2];simp
theorem J2 {a b n:Nat} {t:Tok}:zn (wS a b n) t=if inF a 0 n t then some [b,noF t]else none:=vE
theorem zaj {a b d:Nat}(h:b≠d):∀{n k:Nat},okM d (vr a b k n)=true
 |0,k=>rfl
 |n+1,k=>by
  have h1:inF a (k+1) n [a,k]=false:=by simp[inF];omega
  have h2:inF b (k+1) n [b,k]=false:=by simp[inF];omega
  simp only[vr,okM,vE,UI,zaj h,zS,h1,h2]
  simp[h]
theorem zcr {a b d n:Nat}(h:b≠d):okM d (wS a b n)=true:=zaj h
theorem XW {a:Nat} {p:Tok→Bool}:∀{n k:Nat},(∀i,k≤i→i<k+n→p [a,i]=true)→(xO a k n).all p=true
 |0,k,_=>rfl
 |n+1,k,h=>by
  simp only[xO,List.all_cons,h k (by omega) (by omega),Bool.true_and]
  exact XW fun i h1 h2=>h i (by omega) (by omega)
theorem zcA {a n:Nat} {p:Tok→Bool}(h:∀i,i<n→p [a,i]=true):(J3 a n).all p=true:=XW fun i _ h2=>h i (by omega)
theorem uu {a:Nat} {t:Tok}:∀{n k:Nat},(xO a k n).contains t=inF a k n t
 |0,k=>by rw[xQ];rfl
 |n+1,k=>by
  rw[yS]
  simp only[xO,List.contains_cons,uu]
theorem Xb {a n:Nat} {t:Tok}:(J3 a n).contains t=inF a 0 n t:=uu
theorem Vh {S:St} {m0:List (Tok×Tok)} {a b:Nat} {f:Nat→List AV}:∀{n k:Nat},(∀i,k≤i→i<k+n→zn S.rs [b,i]=some (f i))→qW S m0 (vr a b k n)=ZN a k n fun i=>(f i).map (AV.ren (inM m0))
 |0,k,_=>rfl
 |n+1,k,h=>by
  simp only[vr,qW,h k (by omega) (by omega),ZN]
  rw[Vh fun i h1 h2=>h i (by omega) (by omega)]
theorem zdm {S:St} {m0:List (Tok×Tok)} {a b n:Nat} {f:Nat→List AV}(h:∀i,i<n→zn S.rs [b,i]=some (f i)):qW S m0 (wS a b n)=fam a n fun i=>(f i).map (AV.ren (inM m0)):=Vh fun i _ h2=>h i (by omega)
theorem zcl {rs:List (Tok×List AV)} {a:Nat} {f:Nat→List AV}:∀{n k:Nat},(∀i,k≤i→i<k+n→∃xs,zn rs [a,i]=some xs∧leL xs (f i))→leR rs (ZN a k n f)
 |0,k,_=>trivial
 |n+1,k,h=>by
  obtain⟨xs,h1,h2⟩:=h k (by omega) (by omega)
  refine⟨by rw[h1];exact h2,zcl fun i h1 h2=>h i (by omega) (by omega)⟩
theorem zlT {rs:List (Tok×List AV)} {a n:Nat} {f:Nat→List AV}(h:∀i,i<n→∃xs,zn rs [a,i]=some xs∧leL xs (f i)):leR rs (fam a n f):=zcl fun i _ h2=>h i (by omega)
theorem zgi {a z m:Nat}:∀{n k:Nat},(laK a z m k n).length=n
 |0,k=>rfl
 |n+1,k=>by simp only[laK,List.length_cons,zgi]
@[go_sem] theorem zaP {a z m n : Nat} : (laF a z m n).length = n := zgi
theorem zml {a z m j:Nat}:∀{n k:Nat},j<n→(laK a z m k n)[j]?=some (.la [a,k+j] z 0 m):=by
 induction j with
 |zero=>intro n k h;obtain⟨n,rfl⟩:∃q,n=q+1:=⟨n-1,by omega⟩;simp[laK]
 |succ j ih=>
  intro n k h
  obtain⟨n,rfl⟩:∃q,n=q+1:=⟨n-1,by omega⟩
  simp only[laK,List.getElem?_cons_succ]
  rw[ih (by omega),show k+1+j=k+(j+1) by omega]
@[go_sem] theorem VS {a z m n j : Nat} (h : j < n) : (laF a z m n)[j]? = some (.la [a, j] z 0 m) := by
 have:=zml (a:=a) (z:=z) (m:=m) (k:=0) h
 rwa[Nat.zero_add]at this
theorem zdU {a z m:Nat}:∀{n k:Nat},laK a z m k (n+1)=laK a z m k n++[.la [a,k+n] z 0 m]
 |0,k=>rfl
 |n+1,k=>by
  rw[laK,zdU]
  simp only[laK,List.cons_append]
  rw[show k+1+n=k+(n+1) by omega]
theorem zku {a z m n:Nat}:laF a z m (n+1)=laF a z m n++[.la [a,n] z 0 m]:=by
 have:=zdU (a:=a) (z:=z) (m:=m) (n:=n) (k:=0)
 rwa[Nat.zero_add]at this
theorem zgw {a b z m:Nat} {h:AV→AV}:∀{n k:Nat},(∀i,k≤i→i<k+n→h (.la [a,i] z 0 m)=.la [b,i] z 0 m)→(laK a z m k n).map h=laK b z m k n
 |0,k,_=>rfl
 |n+1,k,hh=>by
  simp only[laK,List.map_cons,hh k (by omega) (by omega)]
  rw[zgw fun i h1 h2=>hh i (by omega) (by omega)]
theorem zf6 {a b z m n:Nat} {h:AV→AV}(hh:∀i,i<n→h (.la [a,i] z 0 m)=.la [b,i] z 0 m):(laF a z m n).map h=laF b z m n:=zgw fun i _ h2=>hh i (by omega)
theorem zme {a z m n:Nat} {rt tt:Tok→Bool}(h:∀i,i<n→rt [a,i]=true):(laF a z m n).map (AV.upd (AM.fil rt tt))=laF a z m n:=zf6 fun i hi=>by simp[AV.upd,AM.fil,QJ,h i hi]
theorem zbc {a b z m n:Nat} {f:Tok→Option Tok}(h:∀i,i<n→f [a,i]=some [b,i]):(laF a z m n).map (AV.ren f)=laF b z m n:=zf6 fun i hi=>by simp[AV.ren,AV.upd,KK,yf,h i hi]
def znh {ι:Type}(k:Nat)(S:St)(inv:ι→Prop)(V:ι→List (Nat×AV))(R:ι→List (Tok×List AV))(Q:Exit→St→Prop):Exit→St→Prop:=fun e S'=>match e with
 |.exit j=>if j=k then ∃i ts,inv i∧S'=S.KA (V i) (R i) ts else Q (.exit j) S'
 |e=>Q e S'
theorem Yf {ι:Type} {k:Nat} {S:St} {inv:ι→Prop} {V:ι→List (Nat×AV)} {R:ι→List (Tok×List AV)} {Q:Exit→St→Prop} {S':St}(i:ι)(hi:inv i)(h:S'=S.KA (V i) (R i) S'.ts):znh k S inv V R Q (.exit k) S':=by
 show(if k=k then _ else _)
 rw[if_pos rfl]
 exact⟨i,_,hi,h⟩
theorem zha [Gi] {P:Program} {D:List Nat} {c:Code} {Q:Exit→St→Prop} {S:St} {ι:Type}(k:Nat)(inv:ι→Prop)(V:ι→List (Nat×AV))(R:ι→List (Tok×List AV))(h:wpA P D c (znh k S inv V R Q) S)
  (hr:∀i ts,inv i→Q (.exit k) (S.KA (V i) (R i) ts)):wpA P D c Q S:=by
 refine ZO c (fun e S' h=>?_) h
 cases e with
 |exit j=>
  have h':if j=k then ∃i ts,inv i∧S'=S.KA (V i) (R i) ts else Q (.exit j) S':=h
  split at h'
  ·rename_i e
   subst e
   obtain⟨i,ts,hi,rfl⟩:=h'
   exact hr i ts hi
  ·exact h'
 |_=>exact h
end
end Go.AM
