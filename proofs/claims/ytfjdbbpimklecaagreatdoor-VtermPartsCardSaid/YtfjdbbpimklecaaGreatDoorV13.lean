/- A part of this seat's proofs, by an abstract machine. Conditions: each law's. -/
import Derived.Test.YtfjdbbpimklecaaGreatDoorV12
import Derived.OrdersHeld
namespace Go.AM
section
mutual
def zab:PV→Bool
 |.int _ _=>true
 |.bool _=>true
 |.str _=>true
 |.opq _=>true
 |.agg cs=>zev cs
 |.sl _ _=>false
 |.mp _ _=>false
 |.pt _ _=>false
def zev:List PV→Bool
 | []=>true
 |x::xs=>zab x&&zev xs
end
mutual
theorem KA {f:Nat→Nat} {w w':World}:∀(x:PV) (v v':Value),zi f w x v→zi f w' x v'→zab x=true→v=v'
 |.int _ _,v,v',r,r',_=>by simp only[zi]at r r';rw[r,r']
 |.bool _,v,v',r,r',_=>by simp only[zi]at r r';rw[r,r']
 |.str _,v,v',r,r',_=>by simp only[zi]at r r';rw[r,r']
 |.opq _,v,v',r,r',_=>by simp only[zi]at r r';rw[r,r']
 |.agg cs,v,v',r,r',h=>by
  simp only[zi]at r r'
  simp only[zab]at h
  obtain⟨vs,rfl,r⟩:=r
  obtain⟨vs',rfl,r'⟩:=r'
  have:=Jm cs _ _ r r' h
  rw[Array.toList_inj.1 this]
 |.sl _ _,_,_,_,_,h=>by simp[zab]at h
 |.mp _ _,_,_,_,_,h=>by simp[zab]at h
 |.pt _ _,_,_,_,_,h=>by simp[zab]at h
theorem Jm {f:Nat→Nat} {w w':World}:∀(xs:List PV) (vs vs':List Value),zr f w xs vs→zr f w' xs vs'→zev xs=true→vs=vs'
 | [],vs,vs',r,r',_=>by simp only[zr]at r r';rw[r,r']
 |x::xs,vs,vs',r,r',h=>by
  simp only[zr]at r r'
  simp only[zev,Bool.and_eq_true]at h
  obtain⟨v,us,rfl,_,h1,h2⟩:=r
  obtain⟨v',us',rfl,_,h1',h2'⟩:=r'
  rw[KA x v v' h1 h1' h.1,Jm xs us us' h2 h2' h.2]
end
def Vk:AV→Bool
 |.p x=>zab x
 |.lp _ _=>true
 |_=>false
theorem x0 {g:Gh} {w w':World}(ur:∀b b' t,g.K b=.root t→g.K b'=.root t→b=b') {x:AV} {v v':Value}(r:za g w x v)(r':za g w' x v')(h:Vk x=true):v=v':=by
 cases x with
 |p x=>simp only[za]at r r';exact KA x v v' r r' h
 |lp t o=>
  simp only[za]at r r'
  obtain⟨b,hb,rfl⟩:=r
  obtain⟨b',hb',rfl⟩:=r'
  rw[ur b b' t hb hb']
 |_=>simp[Vk]at h
def ui(t:Tok)(S:St):St:={S with rs:=S.rs.map fun x=>(x.1,if x.1=t then x.2.map (fun _=>AV.zK)else x.2)}
theorem vw(t u:Tok):∀l:List (Tok×List AV),zw (l.map fun x=>(x.1,if x.1=t then x.2.map (fun _=>AV.zK)else x.2)) u=(zw l u).map fun cs=>if u=t then cs.map (fun _=>AV.zK)else cs
 | []=>rfl
 |(k,y)::l=>by
  simp only[List.map_cons,zw]
  split
  ·rename_i e;subst e;rfl
  ·exact vw t u l
structure Jk(b:Nat)(w w':World):Prop where
 oth:∀c,c≠b→w'.heap[c]?=w.heap[c]?
 own:∃arr arr' T,w.heap[b]?=some (.cells arr T (0,0))∧w'.heap[b]?=some (.cells arr' T (0,0))∧arr'.size=arr.size∧∀(j:Nat) (v:Value),arr[j]?=some v→v.oneCell'=true→∃v',arr'[j]?=some v'∧v'.oneCell'=true
 size:w'.heap.size=w.heap.size
 out:w'.os=w.os∧w'.tape=w.tape∧w'.output=w.output
theorem Jk.refl {b:Nat} {w:World} {arr:Array Value} {T:TypeId}(h:w.heap[b]?=some (.cells arr T (0,0))):Jk b w w:=
 ⟨fun _ _=>rfl,⟨arr,arr,T,h,h,rfl,fun _ v h1 h2=>⟨v,h1,h2⟩⟩,rfl,rfl,rfl,rfl⟩
theorem Jk.blk {b:Nat} {w w':World}(k:Jk b w w') {c:Nat} {n:BN}(h:Blk w c n):Blk w' c n:=by
 by_cases e:c=b
 ·subst e
  obtain⟨arr,arr',T,h1,h2,h3,_⟩:=k.own
  cases n with
  |le n=>
   obtain⟨arr2,T2,k1,k2⟩:=h
   rw[h1]at k1;injection k1 with k1;injection k1 with e1 e2;subst e1
   exact⟨arr',T,h2,by omega⟩
  |eq T2 m=>
   obtain⟨arr2,k1,k2⟩:=h
   rw[h1]at k1;injection k1 with k1;injection k1 with e1 e2;subst e1;subst e2
   exact⟨arr',h2,by omega⟩
 ·exact Blk.of_heap (k.oth c e) h
theorem Jk.trans {b:Nat} {w1 w2 w3:World}(h:Jk b w1 w2)(k:Jk b w2 w3):Jk b w1 w3:=by
 obtain⟨a1,a2,T,h1,h2,h3,h4⟩:=h.own
 obtain⟨a2',a3,T',k1,k2,k3,k4⟩:=k.own
 rw[h2]at k1;injection k1 with k1;injection k1 with e1 e2;subst e1;subst e2
 exact⟨fun c hc=>(k.oth c hc).trans (h.oth c hc),⟨a1,a3,T,h1,k2,k3.trans h3,fun j v hj ho=>by
  obtain⟨v',e1,e2⟩:=h4 j v hj ho
  exact k4 j v' e1 e2⟩,k.size.trans h.size,k.out.1.trans h.out.1,k.out.2.1.trans h.out.2.1,k.out.2.2.trans h.out.2.2⟩
theorem SR.jk [Gi] {E:Ent} {S:St} {g:Gh} {a:Act} {w w':World}(h:SR E S g a w) {b:Nat} {t:Tok}(hk:g.K b=.root t)(k:Jk b w w'):SR E (ui t S) g a w':=by
 have h0:g.fr b=0:=by obtain⟨_,_,h0,_⟩:=h.roots b t hk;exact h0
 have kp:xc g w g w' ftt ftt:=⟨fun c o ho=>⟨ho,zP (k.oth c (fun e=>by subst e;omega))⟩,fun c u _ hc=>⟨hc,fun n hn=>k.blk hn⟩,fun c u _ hc=>⟨hc,rfl,Zo (k.oth c (fun e=>by subst e;rw[hk]at hc;cases hc))⟩⟩
 refine⟨h.size,h.defers,fun u=>za.all kp _ _ (h.slots u),fun c u hc=>?_,h.ur,h.ut,fun c hc=>⟨by rw[k.size];exact(h.own c hc).1,(h.own c hc).2⟩,fun c hc=>?_,h.ext.trans kp.ext,⟨k.out.1.trans h.out.1,k.out.2.1.trans h.out.2.1,k.out.2.2.trans h.out.2.2⟩,by rw[k.size];exact h.mono,fun c hc=>h.frb c (by rwa[k.size]at hc),fun c u hc hu=>⟨(h.pins c u hc hu).1,fun n hn=>k.blk ((h.pins c u hc hu).2 n hn)⟩⟩
 ·obtain⟨cs,hl,hz,arr,T,hb,hle,hcs⟩:=h.roots c u hc
  by_cases e:u=t
  ·subst e
   have:=h.ur c b u hc hk
   subst this
   obtain⟨a1,a2,T',k1,k2,k3,k4⟩:=k.own
   rw[hb]at k1;injection k1 with k1;injection k1 with e1 e2;subst e1;subst e2
   refine⟨cs.map (fun _=>.zK),by simp only[ui];rw[vw,hl];simp,hz,a2,T,k2,by simp;omega,fun j x hj=>?_⟩
   simp only[List.getElem?_map,Option.map_eq_some_iff]at hj
   obtain⟨y,hy,rfl⟩:=hj
   obtain⟨v,hv,h1,_⟩:=hcs j y hy
   obtain⟨v',e1,e2⟩:=k4 j v hv h1
   exact⟨v',e1,e2,by simp only[za]⟩
  ·have hcb:c≠b:=fun e'=>by subst e';rw[hk]at hc;injection hc with hc;exact e hc.symm
   refine⟨cs,by simp only[ui];rw[vw,hl];simp[e],hz,arr,T,(k.oth c hcb).trans hb,hle,fun j x hj=>?_⟩
   obtain⟨v,hv,h1,r⟩:=hcs j x hj
   exact⟨v,hv,h1,za.all kp _ _ r⟩
 ·have hcb:c≠b:=fun e=>by subst e;exact hc (h.own c (by rw[hk];simp)).2
  exact⟨(k.oth c hcb).trans (h.frame c hc).1,(h.frame c hc).2⟩
def Wn(o:Oper):Bool:=match o.op with
 |.move _=>true
 |_=>false
theorem XL [Gi] {P:Program} {ops:Array Oper} {E:Ent} {S:St} {g:Gh} {a:Act} {w:World}(h:SR E S g a w) {b:Nat} {t:Tok}(hk:g.K b=.root t) {o:Oper} {r:PR}(hp:qE P (ui t S) o=some r)(h1:r.1)
  (hd:(Wn o || Vk r.2)=true) (hg:o.guard=none):∃v,YieldsIf P ops (Jk b w) o v a∧za g w r.2 v:=by
 obtain⟨_,_,_,arr,T,hb,_⟩:=h.roots b t hk
 have hj:=Jk.refl hb
 obtain⟨v,hv,hr⟩:=qC (h.jk hk hj) hp h1
 refine⟨v,.inl ⟨by simp[Region.wanted,hg],fun w' hw'=>?_⟩,hr⟩
 simp only[Bool.or_eq_true]at hd
 rcases hd with hd|hd
 ·obtain⟨dst,op,tt,pos,after,guard⟩:=o
  unfold Wn at hd
  split at hd
  ·rename_i x e
   simp only[]at e;subst e
   have e2:∀u,(execOp a.eval ⟨dst,.move x,tt,pos,after,guard⟩).run P u=.ok (.value (a.eval x)) u:=fun u=>rfl
   rw[e2]at hv⊢
   injection hv with hv _
   rw[hv]
  ·cases hd
 ·obtain⟨v',hv',hr'⟩:=qC (h.jk hk hw') hp h1
  rw[x0 h.ur hr hr' hd]
  exact hv'
theorem zaZ [Gi] {P:Program} {E:Ent} {S:St} {g:Gh} {a:Act} {w:World}(h:SR E S g a w) {T:TypeId} {D:Ty}(hT:ty P T=some D) {b o:Nat} {t:Tok}(hk:g.K b=.root t) {cs:List AV}(hl:zw S.rs t=some cs) {zs:List PV} {v:Value}
  (ry:za g w (.p (.agg zs)) v) (h1:zs.length=D.size) (h2:o+zs.length≤cs.length):
  ∃w',(Instr.storeAt T (.pointer (some ⟨b,o,none⟩)) v).run P w=.ok () w'∧SR E (Z1 S t (zL cs o (zs.map .p))) g a w'∧Jk b w w':=by
 simp only[za,zi]at ry
 obtain⟨vs,rfl,hL⟩:=ry
 have hlv:=zr.length hL
 obtain⟨w',hw,hs⟩:=h.QB (P:=P) (o:=o) (ys:=zs.map .p) (vs:=vs.toList) hk hl (by simpa using h2) (by simpa using hlv) (fun j x hj=>by
  simp only[List.getElem?_map,Option.map_eq_some_iff]at hj
  obtain⟨y,hy,rfl⟩:=hj
  obtain⟨v,hv,h1,hr⟩:=hL.get hy
  exact⟨v,hv,h1,by simp only[za];exact hr⟩)
 have hsz:=fun w=>qc w hT
 have hvs:(Value.agg vs).cells.size=D.size:=by simp[Value.cells]at hlv⊢;omega
 refine⟨w',by simp only[Instr.storeAt,Instr.sureAddr,storeVar];simp[hsz,hvs];simpa[Value.cells]using hw,hs,?_⟩
 obtain⟨cs',hl',_,arr,T0,hb,hle,_⟩:=h.roots b t hk
 rw[hl]at hl';injection hl' with hl';subst hl'
 have hlv':vs.toList.length=zs.length:=by simpa using hlv
 have hvl:vs.size=zs.length:=by simpa using hlv'
 have hone:∀u∈vs.toList,u.oneCell'=true:=fun u hu=>by
  obtain⟨j,hj⟩:=List.mem_iff_getElem?.1 hu
  have hjl:j<zs.length:=by rw[←hlv'];exact(List.getElem?_eq_some_iff.1 hj).1
  obtain⟨u',hu',h3,_⟩:=hL.get (List.getElem?_eq_getElem hjl)
  rw[hj]at hu';injection hu' with hu';subst hu';exact h3
 have hrun:=run_storeCells_at P b o T0 vs.toList 0 arr w hb (by omega) hone
 rw[hw]at hrun
 injection hrun with _ hrun
 simp only[Nat.add_zero]at hrun
 subst hrun
 refine⟨fun c hc=>zV w b _ c hc,⟨arr,_,T0,hb,setRow_heap w b arr _ T0 (0,0) hb,by simp;omega,fun j u hj ho=>?_⟩,by simp,rfl,rfl,rfl⟩
 have hjl:j<arr.size:=(Array.getElem?_eq_some_iff.1 hj).1
 by_cases c1:j<o
 ·exact⟨u,by simp[List.getElem?_append,c1];rw[if_pos (by omega)];simpa using hj,ho⟩
 ·by_cases c2:j<o+vs.toList.length
  ·obtain⟨u',hu'⟩:∃u',vs.toList[j-o]?=some u':=⟨_,List.getElem?_eq_getElem (by omega)⟩
   refine⟨u',?_,hone u' (List.mem_of_getElem? hu')⟩
   have hm:(arr.toList.take o).length=o:=by simp;omega
   show(((arr.toList.take o++vs.toList)++arr.toList.drop (o+vs.toList.length)).toArray)[j]?=_
   rw[List.getElem?_toArray,List.getElem?_append_left (by rw[List.length_append,hm];omega),List.getElem?_append_right (by omega),hm]
   exact hu'
  ·refine⟨u,?_,ho⟩
   have hm:(arr.toList.take o++vs.toList).length=o+vs.toList.length:=by simp;omega
   show(((arr.toList.take o++vs.toList)++arr.toList.drop (o+vs.toList.length)).toArray)[j]?=_
   rw[List.getElem?_toArray,List.getElem?_append_right (by omega),hm,List.getElem?_drop,show o+vs.toList.length+(j- (o+vs.toList.length))=j from by omega]
   simpa using hj
def JH(sz:Nat):Nat→Array Bool
 |0=>Array.replicate sz false
 |i+1=>(JH sz i).setIfInBounds i true
def vQ(ops:Array Oper):Nat:=(ops.toList.findSome? fun o=>match o.op with
 |.store _ (.tmp q) _=>some q
 |_=>none).getD 0
def zfI(p:Nat)(o:Oper):Bool:=match o.op with
 |.assign _=>o.dst.isSome
 |.store _ (.tmp q) _=>q==p&&o.dst.isNone
 |_=>false
def V3(ops:Array Oper):Bool:=
 let n:=Zp ops.toList
 Region.noSelect ops&&(List.range ops.size).all (fun i=>match ops[i]? with
  |some o=>o.dst !=some (vQ ops)&&o.guard.isNone&&(if i<n then Region.free .any ops (JH ops.size i) i&&(Region.ready .any ops (JH ops.size i)).contains i else Region.ready .any ops (JH ops.size i)== [i]&&zfI (vQ ops) o)
  |none=>false)&&Region.ready .any ops (JH ops.size ops.size)== []
def Xp(P:Program)(t:Tok)(ov:Nat)(S:St)(o:Oper):Option (Prop×St):=
 match o.op with
 |.assign x=>
  match qE P S o with
  |some r=>some (r.1∧dOK S o.dst,S.qg o.dst r.2)
  |none=>some (xS P S o.dst o.type (S.ev x))
 |.store T (.tmp q) y=>
  match ty P T,S.get q,zw S.rs t,(unG (S.ev y)).2 with
  |some D,.lp t' o',some cs,.p (.agg zs)=>some ((t'=t∧o'=ov)∧(unG (S.ev y)).1∧zs.length=D.size∧o'+zs.length≤cs.length,Z1 S t (zL cs o' (zs.map .p)))
  |_,_,_,_=>none
 |_=>none
def jQ(P:Program)(t:Tok)(ov:Nat):List Oper→St→(St→Prop)→Prop
 | [],S,K=>K S
 |o::rest,S,K=>
  match Xp P t ov S o with
  |some r=>r.1∧jQ P t ov rest r.2 K
  |none=>False
def opsL(P:Program)(t:Tok)(ov:Nat):List Oper→St→(St→Prop)→Prop
 | [],S,K=>K S
 |o::rest,S,K=>
  if Zw o then
   match qE P (ui t S) o with
   |some r=>(r.1∧(Wn o || Vk r.2)=true∧dOK S o.dst)∧opsL P t ov rest (S.qg o.dst r.2) K
   |none=>False
  else jQ P t ov (o::rest) S K
def vH(P:Program)(ops:Array Oper)(S:St)(K:St→Prop):Prop:=
 match S.get (vQ ops)with
 |.lp t ov=>opsL P t ov ops.toList S K
 |_=>False
theorem zgu {a:Act} {d q:Nat} {v:Value}(h:d≠q):(a.put (some d) v).tmps.getD q undef=a.tmps.getD q undef:=by
 simp[Act.put,Array.getD_eq_getD_getElem?,h]
theorem YR {a:Act} {d:Option Nat} {q:Nat} {v:Value}(h:d≠some q):(a.put d v).tmps.getD q undef=a.tmps.getD q undef:=by
 cases d with
 |none=>rfl
 |some d=>exact zgu (fun e=>h (by rw[e]))
theorem Uq {P:Program} {t:Tok} {ov:Nat}:∀(l:List Oper) {S:St} {K K':St→Prop},(∀S,K S→K' S)→jQ P t ov l S K→jQ P t ov l S K'
 | [],S,K,K',hk,h=>hk S h
 |o::rest,S,K,K',hk,h=>by
  simp only[jQ]at h⊢
  split at h
  ·exact⟨h.1,Uq rest hk h.2⟩
  ·exact h.elim
theorem Kx {P:Program} {t:Tok} {ov:Nat}:∀(l:List Oper) {S:St} {K K':St→Prop},(∀S,K S→K' S)→opsL P t ov l S K→opsL P t ov l S K'
 | [],S,K,K',hk,h=>hk S h
 |o::rest,S,K,K',hk,h=>by
  simp only[opsL]at h⊢
  by_cases hp:Zw o=true
  ·rw[if_pos hp]at h⊢
   split at h
   ·exact⟨h.1,Kx rest hk h.2⟩
   ·exact h.elim
  ·rw[if_neg hp]at h⊢
   exact Uq _ hk h
theorem zbB {P:Program} {ops:Array Oper} {S:St} {K K':St→Prop}(hk:∀S,K S→K' S)(h:vH P ops S K):vH P ops S K':=by
 unfold vH at h⊢
 split at h
 ·exact Kx _ hk h
 ·exact h.elim
section
variable [Gi] {P:Program} {ops:Array Oper} {E:Ent} {K:St→Prop} {Q:Exit→Act→World→Prop} {t:Tok} {ov b:Nat} {w0:World}
theorem zep(hB:V3 ops=true)(hQ:∀S' g' a' w',K S'→SR E S' g' a' w'→Q .normal a' w'):∀(l:List Oper) (i:Nat) {S:St} {g:Gh} {a:Act} {w:World},Zp ops.toList≤i→l=ops.toList.drop i→i+l.length=ops.size→
  SR E S g a w→Jk b w0 w→a.tmps.getD (vQ ops) undef=.pointer (some ⟨b,ov,none⟩)→jQ P t ov l S K→wpAnyH P .any ops Q (Jk b w0) l.length (JH ops.size i) a w:=by
 have hB':=hB
 unfold V3 at hB'
 simp only[Bool.and_eq_true,beq_iff_eq]at hB'
 obtain⟨⟨hsel,hall⟩,hend⟩:=hB'
 intro l
 induction l with
 |nil=>
  intro i S g a w hn hl hs hS hj hp h
  have:i=ops.size:=by simpa using hs
  subst this
  exact⟨hend,hQ _ _ _ _ h hS⟩
 |cons o l ih=>
  intro i S g a w hn hl hs hS hj hp h
  have hil:i<ops.size:=by simp at hs;omega
  have hio:ops[i]?=some o:=by
   have:(ops.toList.drop i)[0]?=some o:=by rw[←hl];rfl
   simpa using this
  have hi:=List.all_eq_true.1 hall i (List.mem_range.2 hil)
  simp only[hio,Bool.and_eq_true,bne_iff_ne,ne_eq]at hi
  obtain⟨⟨hd,hg⟩,hi⟩:=hi
  rw[if_neg (by omega)]at hi
  simp only[Bool.and_eq_true,beq_iff_eq]at hi
  obtain⟨hready,hop⟩:=hi
  have hl':l=ops.toList.drop (i+1):=by
   rw[←List.drop_drop,←hl];rfl
  have hg':o.guard=none:=by simpa using hg
  refine wpAnyH_all hready (by simp) (fun i' hi'=>?_)
  obtain rfl:i'=i:=by simpa using hi'
  have fin:∀(v:Value) (w':World) (S':St) (g':Gh),Ran P o a w v w'→SR E S' g' (a.put o.dst v) w'→Jk b w0 w'→jQ P t ov l S' K→wpOp P ops Q i' (fun a' w'=>Jk b w0 w'∧wpAnyH P .any ops Q (Jk b w0) l.length ((JH ops.size i').setIfInBounds i' true) a' w') a w:=by
   intro v w' S' g' hr hS' hj' ht
   have hnext:=ih (i'+1) (by omega) hl' (by simp at hs⊢;omega) hS' hj' (by rw[YR hd];exact hp) ht
   unfold wpOp
   simp only[hio]
   rw[if_pos (by simp[Region.wanted,hg'])]
   left
   rcases hr with hr|⟨hr,rfl⟩
   ·simp only[Oper.wp,hr,Oper.upon]
    exact⟨hj',hnext⟩
   ·simp only[Oper.wp,hr,Oper.upon]
    exact⟨hj',hnext⟩
  simp only[jQ]at h
  unfold Xp at h
  unfold zfI at hop
  obtain⟨dst,op,tt,pos,after,guard⟩:=o
  cases op with
  |assign x=>
   simp only[]at h
   cases hpu:qE P S ⟨dst,.assign x,tt,pos,after,guard⟩with
   |some r=>
    simp only[hpu]at h
    obtain⟨v,hv,hs'⟩:=Yn hS hpu h.1.1 h.1.2
    exact fin v w _ g (.inl hv) hs' hj h.2
   |none=>
   simp only[hpu]at h
   obtain⟨v,w',g',hr,hS'⟩:=wI (o:=⟨dst,.assign x,tt,pos,after,guard⟩) hS rfl h.1
   have e:w'=w:=by
    have e2:(execOp a.eval ⟨dst,.assign x,tt,pos,after,guard⟩).run P w=.ok (.value (a.eval x)) w:=rfl
    rcases hr with hr|⟨hr,_⟩
    ·rw[e2]at hr;injection hr with _ hr;exact hr.symm
    ·rw[e2]at hr;cases hr
   subst e
   exact fin v _ _ g' hr hS' hj h.2
  |store T x y=>
   cases x with
   |tmp q=>
    simp only[Bool.and_eq_true,beq_iff_eq]at hop
    obtain⟨rfl,hdn⟩:=hop
    have hdn':dst=none:=by simpa using hdn
    subst hdn'
    simp only[]at h
    split at h
    ·rename_i r hr
     split at hr
     ·rename_i D t' o' cs zs hT hq hl hy
      simp only[Option.some.injEq]at hr
      subst hr
      obtain⟨⟨⟨rfl,rfl⟩,hu,h1,h2⟩,h3⟩:=h
      have hrp:=hS.slots (vQ ops)
      rw[hq,hp]at hrp
      simp only[za]at hrp
      obtain⟨b',hk,e⟩:=hrp
      injection e with e;injection e with e;injection e with e
      subst e
      have ry:=zp hu (hS.ev y)
      rw[hy]at ry
      obtain⟨w',k1,k2,k3⟩:=zaZ hS hT hk hl ry h1 h2
      refine fin undef w' _ g (.inr ⟨?_,rfl⟩) k2 (hj.trans k3) h3
      have e1:a.eval (.tmp (vQ ops))=.pointer (some ⟨b,o',none⟩):=hp
      simp only[execOp,e1,Sem.run_bind,k1,Result.andThen_ok,Sem.run_pure]
     ·cases hr
    ·exact h.elim
   |_=>cases hop
  |_=>cases hop
theorem zeG(hB:V3 ops=true)(hQ:∀S' g' a' w',K S'→SR E S' g' a' w'→Q .normal a' w')(hQp:∀c a w,¬Q (.panic c) a w):∀(l:List Oper) (i:Nat) {S:St} {g:Gh} {a:Act},Zp ops.toList=i+Zp l→l=ops.toList.drop i→i+l.length=ops.size→
  SR E S g a w0→g.K b=.root t→a.tmps.getD (vQ ops) undef=.pointer (some ⟨b,ov,none⟩)→opsL P t ov l S K→wpAnyH P .any ops Q (Jk b w0) l.length (JH ops.size i) a w0:=by
 have hB':=hB
 unfold V3 at hB'
 simp only[Bool.and_eq_true,beq_iff_eq]at hB'
 obtain⟨⟨hsel,hall⟩,hend⟩:=hB'
 intro l
 induction l with
 |nil=>
  intro i S g a hn hl hs hS hk hp h
  have:i=ops.size:=by simpa using hs
  subst this
  exact⟨hend,hQ _ _ _ _ h hS⟩
 |cons o l ih=>
  intro i S g a hn hl hs hS hk hp h
  have hil:i<ops.size:=by simp at hs;omega
  have hio:ops[i]?=some o:=by
   have:(ops.toList.drop i)[0]?=some o:=by rw[←hl];rfl
   simpa using this
  obtain⟨_,_,_,arr,T,hb,_⟩:=hS.roots b t hk
  by_cases hpu:Zw o=true
  ·have hi:=List.all_eq_true.1 hall i (List.mem_range.2 hil)
   simp only[hio,Bool.and_eq_true,bne_iff_ne,ne_eq]at hi
   obtain⟨⟨hd,hg⟩,hi⟩:=hi
   have hlen:Zp (o::l)=Zp l+1:=by rw[Zp,if_pos hpu]
   rw[if_pos (by omega)]at hi
   simp only[Bool.and_eq_true]at hi
   simp only[opsL,hpu,if_true]at h
   split at h
   ·rename_i r hr
    obtain⟨⟨h1,h2,h3⟩,h4⟩:=h
    obtain⟨v,hy,hrep⟩:=XL (ops:=ops) hS hk hr h1 h2 (by simpa using hg)
    have hnext:=ih (i+1) (by omega) (by rw[←List.drop_drop,←hl];rfl) (by simp at hs⊢;omega) (hS.qg hrep h3) hk (by rw[YR hd];exact hp) h4
    exact wpAnyH_take hio hsel hi.1 hi.2 (fun c a w hq=>absurd hq (hQp c _ _)) hy (Jk.refl hb) hnext
   ·exact h.elim
  ·have hlen:Zp (o::l)=0:=by rw[Zp,if_neg hpu]
   simp only[opsL,if_neg hpu]at h
   exact zep hB hQ (o::l) i (by omega) hl hs hS (Jk.refl hb) hp h
theorem Kb {id:Nat}(hm:P.follows .mixedOrders=true)(hB:V3 ops=true)(hQ:∀S' g' a' w',K S'→SR E S' g' a' w'→Q .normal a' w') {S:St} {g:Gh} {a:Act} {w:World}
  (h:vH P ops S K) (hS:SR E S g a w):(Code.region id ops true).wp P Q a w:=by
 unfold vH at h
 split at h
 ·rename_i t ov hp
  have hS1:SR E S g a {w with drawn:=w.drawn+1}:=hS.drew
  have hr:=hS1.slots (vQ ops)
  rw[hp]at hr
  simp only[za]at hr
  obtain⟨b,hk,hr⟩:=hr
  have:=zeG (Q:=fun e a w=>e=.normal∧Q .normal a w) hB (fun S' g' a' w' k s=>⟨rfl,hQ S' g' a' w' k s⟩) (fun c a w hq=>by cases hq.1) ops.toList 0 (by simp) (by simp) (by simp) hS1 hk hr h
  refine wp_mono (wp_region_held hm (S:=Jk b {w with drawn:=w.drawn+1}) (by simpa[JH]using this)) ?_
  rintro e a' w' ⟨rfl,hq⟩
  exact hq
 ·exact h.elim
end
end
end Go.AM
