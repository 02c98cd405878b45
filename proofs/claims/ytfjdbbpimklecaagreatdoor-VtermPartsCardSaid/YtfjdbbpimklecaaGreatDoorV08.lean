/- A part of this seat's proofs, by an abstract machine. Conditions: each law's. -/
import Derived.Test.YtfjdbbpimklecaaGreatDoorV07
import Derived.ChangeMaps4
import Derived.Lib.ConvBytes
import Derived.Laws.AppendOwn
namespace Go.AM
section
def fz1(t:Tok)(ks xs:List PV):AV→AV
 |.om u a b=>if u=t then .om u ks xs else .om u a b
 |.os u z es=>if u=t then .p (.sl z es)else .os u z es
 |.ow u z es=>if u=t then .zK else .ow u z es
 |.bb u T l=>if u=t then .zK else .bb u T l
 |.tup _=>.zK
 |.gd _ _=>.zK
 |.ag _=>.zK
 |.fn _ _=>.zK
 |.st _ _=>.zK
 |.it u a b l c=>if u=t then .zK else .it u a b l c
 |x=>x
def fz(t:Tok)(ks xs:List PV):AV→AV
 |.ag l=>.ag (l.map (fz1 t ks xs))
 |.fn f l=>.fn f (l.map (fz1 t ks xs))
 |x=>fz1 t ks xs x
def St.fz(S:St)(t:Tok)(ks xs:List PV):St:=
 {S with vs:=S.vs.map fun x=>(x.1,x.2.upd (AM.fz t ks xs)),ts:=S.ts.map fun x=>(x.1,x.2.upd (AM.fz t ks xs)),rs:=S.rs.map fun x=>(x.1,x.2.map (AV.upd (AM.fz t ks xs)))}
theorem St.zja(t:Tok)(ks xs:List PV)(S:St)(u:Nat):(S.fz t ks xs).get u=(S.get u).upd (AM.fz t ks xs):=by
 have hk:(S.fz t ks xs).kept u=S.kept u:=rfl
 unfold St.get
 rw[hk]
 have h:∀l:List (Nat×AV),qV (look (l.map fun x=>(x.1,x.2.upd (AM.fz t ks xs))) u)=(qV (look l u)).upd (AM.fz t ks xs):=fun l=>by
  rw[vM (AV.upd (AM.fz t ks xs))]
  cases look l u<;>simp[qV,AV.upd,AM.fz,AM.fz1]
 split
 ·exact h S.vs
 ·exact h S.ts
structure zcx(g:Gh)(w:World)(g':Gh)(w':World)(t:Tok)(ks xs:List PV):Prop where
 ext:Ext g.fr w g'.fr w'
 kr:∀b u,g.K b=.root u→g'.K b=.root u∧∀n,Blk w b n→Blk w' b n
 kt:∀b u,u≠t→g.K b=.tail u→g'.K b=.tail u∧g'.fr b=g.fr b∧w'.heap[b]?=w.heap[b]?
 own:∀b,g.K b=.tail t→∃arr c,ZV w' b=some (arr,c)∧g'.K b=.tail t∧g'.fr b=0∧qp g'.fr w' ks (arr.toList.map (·.key))∧qp g'.fr w' xs (arr.toList.map (·.val))
theorem za.fz1 {g g':Gh} {w w':World} {t:Tok} {ks xs:List PV}(k:zcx g w g' w' t ks xs)(x:AV)(v:Value)(r:za g w x v):za g' w' (fz1 t ks xs x) v:=by
 cases x with
 |p x=>simp only[AM.fz1,za]at r⊢;exact r.ext k.ext
 |os u z es=>
  simp only[za]at r
  simp only[AM.fz1]
  split
  ·simp only[za];exact r.1.ext k.ext
  ·rename_i hu
   simp only[za]
   refine⟨r.1.ext k.ext,r.2.imp id ?_⟩
   rintro⟨b,o,len,cap,e,hk,hf,hb⟩
   obtain⟨a1,a2,a3⟩:=k.kt b u hu hk
   exact⟨b,o,len,cap,e,a1,a2.trans hf,Blk.of_heap a3 hb⟩
 |om u a b=>
  simp only[za]at r
  obtain⟨c,arr,n,e,hk,hf,hm,r1,r2⟩:=r
  simp only[AM.fz1]
  split
  ·rename_i hu
   subst hu
   obtain⟨arr',c',h1,h2,h3,h4,h5⟩:=k.own c hk
   simp only[za]
   exact⟨c,arr',c',e,h2,h3,h1,h4,h5⟩
  ·rename_i hu
   simp only[za]
   obtain⟨a1,a2,a3⟩:=k.kt c u hu hk
   exact⟨c,arr,n,e,a1,a2.trans hf,(qT a3).trans hm,r1.ext k.ext,r2.ext k.ext⟩
 |ow u z es=>
  simp only[AM.fz1]
  split
  ·simp only[za]
  ·rename_i hu
   simp only[za]at r⊢
   exact r
 |bz u T m=>
  simp only[AM.fz1,za]at r⊢
  obtain⟨b,hk,hb,e⟩:=r
  exact⟨b,(k.kr b u hk).1,(k.kr b u hk).2 _ hb,e⟩
 |bb u T l=>
  simp only[AM.fz1]
  split
  ·simp only[za]
  ·rename_i hu
   simp only[za]at r⊢
   refine r.imp id ?_
   rintro⟨b,cap,arr,e,hk,hf,hb,rest⟩
   obtain⟨a1,a2,a3⟩:=k.kt b u hu hk
   exact⟨b,cap,arr,e,a1,a2.trans hf,a3.trans hb,rest⟩
 |it u a b l c=>
  simp only[AM.fz1]
  split
  ·simp only[za]
  ·rename_i hu
   simp only[za]at r⊢
   obtain⟨b,bm,since,seen,c0,arr,clock,e,hk,hf,hi,hs,hfm,hm,hold,r1,r2,rest⟩:=r
   obtain⟨a1,a2,a3⟩:=k.kt b u hu hk
   have hx:=k.ext bm 0 hfm
   exact⟨b,bm,since,seen,c0,arr,clock,e,a1,a2.trans hf,a3.trans hi,hs,hx.1,hx.2.2.trans hm,hold,r1.ext k.ext,r2.ext k.ext,rest⟩
 |lp u o=>simp only[AM.fz1,za]at r⊢;obtain⟨b,hk,e⟩:=r;exact⟨b,(k.kr b u hk).1,e⟩
 |la u z o n=>simp only[AM.fz1,za]at r⊢;obtain⟨b,o',cap,hk,e,hn⟩:=r;exact⟨b,o',cap,(k.kr b u hk).1,e,hn.1,hn.2.1,(k.kr b u hk).2 _ hn.2.2⟩
 |ip z e o=>
  simp only[AM.fz1,za]at r⊢
  obtain⟨b,base,ev,hf,he⟩:=r
  exact⟨b,base,ev,Nat.le_trans hf (k.ext.le b),qo.ext k.ext z b [e] base (by simpa using hf) he⟩
 |_=>simp only[AM.fz1,za]
theorem za.fz {g g':Gh} {w w':World} {t:Tok} {ks xs:List PV}(k:zcx g w g' w' t ks xs)(x:AV)(v:Value)(r:za g w x v):za g' w' (AM.fz t ks xs x) v:=by
 cases x with
 |ag l=>
  simp only[AM.fz,za]at r⊢
  obtain⟨vs,e,h1,r⟩:=r
  exact⟨vs,e,h1,zm.map _ (za.fz1 k) l _ r⟩
 |fn f l=>
  simp only[AM.fz,za]at r⊢
  obtain⟨vs,e,r⟩:=r
  exact⟨vs,e,zm.map _ (za.fz1 k) l _ r⟩
 |_=>exact za.fz1 k _ v r
theorem za.zjS {g g':Gh} {w w':World} {t:Tok} {ks xs:List PV}(k:zcx g w g' w' t ks xs)(x:AV)(v:Value)(r:za g w x v):za g' w' (x.upd (AM.fz t ks xs)) v:=by
 cases x with
 |tup l=>
  simp only[AV.upd,za]at r⊢
  obtain⟨vs,e,r⟩:=r
  exact⟨vs,e,zm.map _ (za.fz k) l _ r⟩
 |gd c x=>
  simp only[AV.upd,za]at r⊢
  exact⟨fun hc=>za.fz k x v (r.1 hc),r.2⟩
 |_=>exact za.fz k _ v r
theorem Qe {w:World} {b:Nat} {o:Obj}(h:b<w.heap.size)(c:Nat):(Go.ChangeMaps.setBlock w b o).heap[c]?=if c=b then some o else w.heap[c]?:=by
 simp only[Go.ChangeMaps.setBlock,Array.getElem?_setIfInBounds]
 by_cases e:b=c
 ·subst e;simp[h]
 ·rw[if_neg e,if_neg (fun e'=>e e'.symm)]
theorem SR.fz [Gi] {E:Ent} {S:St} {g:Gh} {a:Act} {w:World}(h:SR E S g a w) {b:Nat} {t:Tok}(hk:g.K b=.tail t)(h0:g.fr b=0) {arr':Array MapEntry} {c':Nat} {ks xs:List PV}
  (hst:Q1 arr' c'=true) (r1:qp g.fr w ks (arr'.toList.map (·.key))) (r2:qp g.fr w xs (arr'.toList.map (·.val))):SR E (S.fz t ks xs) g a (Go.ChangeMaps.setBlock w b (.map arr' c')):=by
 have hb:=h.own b (by rw[hk];simp)
 have hheap:=Qe (w:=w) (b:=b) (o:=.map arr' c') hb.1
 have hsz:(Go.ChangeMaps.setBlock w b (.map arr' c')).heap.size=w.heap.size:=by simp[Go.ChangeMaps.setBlock]
 have ne:∀c,c≠b→(Go.ChangeMaps.setBlock w b (.map arr' c')).heap[c]?=w.heap[c]?:=fun c hc=>by rw[hheap,if_neg hc]
 have hext:Ext g.fr w g.fr (Go.ChangeMaps.setBlock w b (.map arr' c')):=fun c o ho=>⟨ho,zP (ne c (fun e=>by subst e;omega))⟩
 have kp:zcx g w g (Go.ChangeMaps.setBlock w b (.map arr' c')) t ks xs:=by
  refine⟨hext,fun c u hc=>⟨hc,fun _ hn=>Blk.of_heap (ne c (fun e=>by subst e;rw[hk]at hc;cases hc)) hn⟩,fun c u hu hc=>⟨hc,rfl,Zo (ne c (fun e=>by subst e;rw[hk]at hc;injection hc with hc;exact hu hc.symm))⟩,fun c hc=>?_⟩
  have:c=b:=h.ut c b t hc hk
  subst this
  exact⟨arr',c',xV (by rw[hheap,if_pos rfl]) hst,hc,h0,r1.ext hext,r2.ext hext⟩
 refine⟨h.size,h.defers,fun u=>by rw[St.zja];exact za.zjS kp _ _ (h.slots u),fun c u hc=>?_,h.ur,h.ut,fun c hc=>by rw[hsz];exact h.own c hc,fun c hc=>?_,h.ext.trans hext,h.out,by rw[hsz];exact h.mono,fun c hc=>h.frb c (by rw[hsz]at hc;exact hc),fun c u hc hu=>⟨(kp.kr c u (h.pins c u hc hu).1).1,fun n hn=>(kp.kr c u (h.pins c u hc hu).1).2 n ((h.pins c u hc hu).2 n hn)⟩⟩
 ·have hcb:c≠b:=fun e=>by subst e;rw[hk]at hc;cases hc
  obtain⟨cs,hl,hz,arr,T,hbb,hle,hcc⟩:=h.roots c u hc
  refine⟨cs.map (AV.upd (AM.fz t ks xs)),?_,hz,arr,T,(ne c hcb).trans hbb,by simpa using hle,fun j x hj=>?_⟩
  ·simp only[St.fz]
   rw[uC (List.map (AV.upd (AM.fz t ks xs))),hl]
   rfl
  ·simp only[List.getElem?_map,Option.map_eq_some_iff]at hj
   obtain⟨y,hy,rfl⟩:=hj
   obtain⟨v,hv,h1,r⟩:=hcc j y hy
   exact⟨v,hv,h1,za.zjS kp _ _ r⟩
 ·have e1:c≠b:=fun e=>by subst e;exact hc hb.2
  exact⟨(ne c e1).trans (h.frame c hc).1,(h.frame c hc).2⟩
theorem Wb:∀{kc:List Kc} {a b:List PV},okC kc a=true→okC kc b=true→eqC a b=true→a=b
 | [],[],[],_,_,_=>rfl
 | [],_::_,_,h,_,_=>by simp[okC]at h
 | [],[],_::_,_,h,_=>by simp[okC]at h
 |.b::ks,[],_,h,_,_=>by simp[okC]at h
 |.i _::ks,[],_,h,_,_=>by simp[okC]at h
 |.s::ks,[],_,h,_,_=>by simp[okC]at h
 |.b::ks,_::_,[],_,h,_=>by simp[okC]at h
 |.i _::ks,_::_,[],_,h,_=>by simp[okC]at h
 |.s::ks,_::_,[],_,h,_=>by simp[okC]at h
 |.b::ks,x::xs,y::ys,h,k,e=>by
  cases x<;>simp[okC]at h
  cases y<;>simp[okC]at k
  simp[eqC]at e
  rw[e.1,Wb h k e.2]
 |.i _::ks,x::xs,y::ys,h,k,e=>by
  cases x<;>simp[okC]at h
  cases y<;>simp[okC]at k
  simp[eqC]at e
  rw[e.1,Wb h.2 k.2 e.2,h.1,k.1]
 |.s::ks,x::xs,y::ys,h,k,e=>by
  cases x<;>simp[okC]at h
  cases y<;>simp[okC]at k
  simp[eqC]at e
  rw[e.1,Wb h k e.2]
theorem kS {fr:Nat→Nat} {w:World}(n:Nat):∀{kc:List Kc} {xs:List PV} {a b:List Value},okC kc xs=true→zr fr w xs a→zr fr w xs b→a.length=b.length∧((a.zip b).all fun(x,y)=>Instr.sameBits n x y)=true
 | [],[],a,b,_,ra,rb=>by simp only[zr]at ra rb;subst ra;subst rb;exact⟨rfl,rfl⟩
 | [],_::_,_,_,h,_,_=>by simp[okC]at h
 |.b::ks,[],_,_,h,_,_=>by simp[okC]at h
 |.i _::ks,[],_,_,h,_,_=>by simp[okC]at h
 |.s::ks,[],_,_,h,_,_=>by simp[okC]at h
 |.b::ks,x::xs,a,b,h,ra,rb=>by
  cases x<;>simp[okC]at h
  simp only[zr,zi]at ra rb
  obtain⟨_,a',rfl,_,rfl,ra⟩:=ra
  obtain⟨_,b',rfl,_,rfl,rb⟩:=rb
  obtain⟨h1,h2⟩:=kS n h ra rb
  exact⟨by simp[h1],by simp only[List.zip_cons_cons,List.all_cons,h2,Bool.and_true];cases n<;>simp[Instr.sameBits]⟩
 |.i _::ks,x::xs,a,b,h,ra,rb=>by
  cases x<;>simp[okC]at h
  simp only[zr,zi]at ra rb
  obtain⟨_,a',rfl,_,rfl,ra⟩:=ra
  obtain⟨_,b',rfl,_,rfl,rb⟩:=rb
  obtain⟨h1,h2⟩:=kS n h.2 ra rb
  exact⟨by simp[h1],by simp only[List.zip_cons_cons,List.all_cons,h2,Bool.and_true];cases n<;>simp[Instr.sameBits]⟩
 |.s::ks,x::xs,a,b,h,ra,rb=>by
  cases x<;>simp[okC]at h
  simp only[zr,zi]at ra rb
  obtain⟨_,a',rfl,_,rfl,ra⟩:=ra
  obtain⟨_,b',rfl,_,rfl,rb⟩:=rb
  obtain⟨h1,h2⟩:=kS n h ra rb
  exact⟨by simp[h1],by simp only[List.zip_cons_cons,List.all_cons,h2,Bool.and_true];cases n<;>simp[Instr.sameBits,beq_toListBytes]⟩
theorem jP {α:Type}:∀{l:List α} {j:Nat} {x:α},l[j]?=some x→l.set j x=l
 | [],j,x,h=>by simp at h
 |y::l,0,x,h=>by simp at h;subst h;rfl
 |y::l,j+1,x,h=>by simp at h;simp[jP h]
theorem qp.set {fr:Nat→Nat} {w:World}:∀{xs:List PV} {vs:List Value} {j:Nat} {x:PV} {v:Value},qp fr w xs vs→zi fr w x v→qp fr w (xs.set j x) (vs.set j v)
 | [],vs,j,x,v,r,_=>by simp only[qp]at r;subst r;simp[qp]
 |y::xs,vs,j,x,v,r,rv=>by
  simp only[qp]at r
  obtain⟨u,vs',rfl,h1,h2⟩:=r
  cases j with
  |zero=>simp only[List.set_cons_zero,qp];exact⟨_,_,rfl,rv,h2⟩
  |succ j=>simp only[List.set_cons_succ,qp];exact⟨_,_,rfl,h1,qp.set h2 rv⟩
theorem qp.snoc {fr:Nat→Nat} {w:World}:∀{xs:List PV} {vs:List Value} {x:PV} {v:Value},qp fr w xs vs→zi fr w x v→qp fr w (xs++[x]) (vs++[v])
 | [],vs,x,v,r,rv=>by simp only[qp]at r;subst r;simp only[List.nil_append,qp];exact⟨_,_,rfl,rv,rfl⟩
 |y::xs,vs,x,v,r,rv=>by
  simp only[qp]at r
  obtain⟨u,vs',rfl,h1,h2⟩:=r
  simp only[List.cons_append,qp]
  exact⟨_,_,rfl,h1,qp.snoc h2 rv⟩
def QA(key:PV)(ks xs:List PV):List PV:=if(qq key.cells ks xs 0).isSome then ks else ks++[key]
def Qw(key:PV)(x:PV)(ks xs:List PV):List PV:=match qq key.cells ks xs 0 with
 |some (j,_)=>xs.set j x
 |none=>xs++[x]
def kd(P:Program)(S:St)(T:TypeId)(m k x:AV):Prop×St:=
 match ty P T with
 |some ⟨.map kt _,_,_,_⟩=>
  match Ze P kt,m,k,x with
  |some (ag,kc),.om t ks xs,.p key,.p y=>((ZB ag kc key=true∧ks.all (ZB ag kc)=true),S.fz t (QA key ks xs) (Qw key y ks xs))
  |_,_,_,_=>(False,S)
 |_=>(False,S)
theorem yD {α:Type}(f:α→α):∀{l:List α} {j:Nat} {e:α},l[j]?=some e→l.modify j f=l.set j (f e)
 | [],j,e,h=>by simp at h
 |x::l,0,e,h=>by simp at h;subst h;simp
 |x::l,j+1,e,h=>by simp at h;simp[yD f h]
theorem qp.at_ {fr:Nat→Nat} {w:World}:∀{l:List PV} {vs:List Value} {i:Nat} {q:PV} {v:Value},qp fr w l vs→l[i]?=some q→vs[i]?=some v→zi fr w q v
 | [],vs,i,q,v,_,hq,_=>by simp at hq
 |y::l,vs,i,q,v,r,hq,hv=>by
  simp only[qp]at r
  obtain⟨u,vs',rfl,h1,h2⟩:=r
  cases i with
  |zero=>simp at hq hv;subst hq;subst hv;exact h1
  |succ i=>exact qp.at_ h2 (by simpa using hq) (by simpa using hv)
theorem Xj {ag:Bool} {kc:List Kc} {k1 k2:PV}(h1:ZB ag kc k1=true)(h2:ZB ag kc k2=true)(h:eqC k1.cells k2.cells=true):k1=k2:=by
 obtain⟨a1,b1⟩:=zJ h1
 obtain⟨a2,b2⟩:=zJ h2
 have e:=Wb b1 b2 h
 cases ag with
 |true=>
  cases k1<;>simp[vi]at a1
  cases k2<;>simp[vi]at a2
  simpa[PV.cells]using e
 |false=>
  have one:∀k:PV,vi k=false→k.cells=[k]:=fun k h=>by
   cases k<;>first|rfl|(simp[vi]at h)
  rw[one k1 a1,one k2 a2]at e
  injection e
theorem Jb {P:Program} {fr:Nat→Nat} {w:World} {kt:TypeId} {ag:Bool} {kc:List Kc}(hk:Ze P kt=some (ag,kc)) {key:PV}(h:ZB ag kc key=true) {u v:Value}(r1:zi fr w key u)(r2:zi fr w key v):(Instr.keyThatStays u v).run P w=.ok v w:=by
 obtain⟨cs,a1,_,a3,a4⟩:=Qv hk h r1
 obtain⟨ds,b1,_,b3,b4⟩:=Qv hk h r2
 have hb:=(zJ h).2
 have hs:Instr.sameBits 10000 u v=true:=by
  cases ag with
  |true=>
   obtain⟨e1,e2⟩:=kS 9999 hb a1 b1
   rw[a3 rfl,b3 rfl]
   show(cs.toArray.size==ds.toArray.size&&_)=true
   simp only[List.size_toArray,Bool.and_eq_true,beq_iff_eq]
   exact⟨e1,by simpa using e2⟩
  |false=>
   obtain⟨_,e2⟩:=kS 10000 hb a1 b1
   have e3:=a4 rfl
   have e4:=b4 rfl
   subst e3;subst e4
   simpa using e2
 unfold Instr.keyThatStays
 rw[if_pos hs];rfl
theorem Z5 {arr:Array MapEntry} {c:Nat}:Q1 arr c=true↔(arr.toList.map (·.born)).Nodup∧∀e∈arr.toList,e.born<c:=by
 unfold Q1
 simp only[Bool.and_eq_true,decide_eq_true_eq,List.all_eq_true]
theorem yA {arr:Array MapEntry} {c:Nat}(h:Q1 arr c=true)(k v:Value):Q1 (arr.push {key:=k,val:=v,born:=c}) (c+1)=true:=by
 rw[Z5]at h⊢
 obtain⟨h1,h2⟩:=h
 simp only[Array.toList_push,List.map_append,List.map_cons,List.map_nil]
 refine⟨?_,fun e he=>?_⟩
 ·rw[List.nodup_append]
  refine⟨h1,by simp,fun a ha b hb=>?_⟩
  obtain⟨e,he,rfl⟩:=List.mem_map.1 ha
  rw[List.mem_singleton.1 hb]
  have:=h2 e he
  omega
 ·rcases List.mem_append.1 he with he|he
  ·have:=h2 e he;omega
  ·rw[List.mem_singleton.1 he];simp
theorem yY {f:MapEntry→MapEntry}(hf:∀e,(f e).born=e.born):∀(l:List MapEntry) (j:Nat),(l.modify j f).map (·.born)=l.map (·.born)
 | [],j=>by cases j<;>rfl
 |e::l,0=>by simp[hf]
 |e::l,j+1=>by simp[yY hf l j]
theorem jR {arr:Array MapEntry} {c:Nat}(h:Q1 arr c=true) {j:Nat} {f:MapEntry→MapEntry}(hf:∀e,(f e).born=e.born):Q1 (arr.modify j f) c=true:=by
 rw[Z5]at h⊢
 obtain⟨h1,h2⟩:=h
 have e:=yY hf arr.toList j
 rw[Array.toList_modify]
 refine⟨by rw[e];exact h1,fun x hx=>?_⟩
 have:x.born∈arr.toList.map (·.born):=by rw[←e];exact List.mem_map_of_mem hx
 obtain⟨y,hy,he⟩:=List.mem_map.1 this
 rw[←he];exact h2 y hy
theorem wK [Gi] {P:Program} {E:Ent} {S:St} {g:Gh} {a:Act} {w:World}(hS:SR E S g a w) {T:TypeId} {m k x:AV} {vm vk vx:Value}(h:(kd P S T m k x).1)(rm:za g w m vm)(rk:za g w k vk)(rx:za g w x vx):
  ∃w' g',(Instr.mapUpdate T vm vk vx).run P w=.ok () w'∧SR E (kd P S T m k x).2 g' a w':=by
 unfold kd at h⊢
 split at h
 ·rename_i kt et sz by_ ze hT
  have hu:=zo w hT
  simp only[]at hu
  split at h
  ·rename_i ag kc t ks xs key y hk
   obtain⟨hkey,hall⟩:=h
   simp only[za]at rm
   obtain⟨b,arr,c,rfl,hK,h0,hm,r1,r2⟩:=rm
   obtain⟨hb,hst⟩:=Qt hm
   simp only[za]at rk rx
   obtain⟨h8,_⟩:=Qy hk
   obtain⟨cs,a1,a2,_⟩:=Qv hk hkey rk
   have hck:(Instr.checkKey false 10000 kt vk).run P w=.ok () w:=kQ false 9992 8 kt kc _ vk cs h8 (zJ hkey).2 a1 a2
   obtain⟨r,hr,hf⟩:=Q4 (P:=P) hk hkey rk hall r1 r2
   rcases hf with ⟨hf,rfl⟩|⟨j,z,zv,hf,rfl,_,_,_,e,he,k',hk',heq⟩
   ·have hrun:(Instr.mapUpdate T (.map (some b)) vk vx).run P w=.ok () (Go.ChangeMaps.setBlock w b (.map (arr.push {key:=vk,val:=vx,born:=c}) (c+1))):=by
     unfold Instr.mapUpdate
     simp only[Sem.run_bind,hu,Result.andThen_ok,MapKept.run_getObj_map hb,hck,hr]
     exact MapKept.run_setObj_map _ hb
    have hs:=hS.fz hK h0 (arr':=arr.push {key:=vk,val:=vx,born:=c}) (c':=c+1) (ks:=QA key ks xs) (xs:=Qw key y ks xs) (yA hst _ _)
     (by unfold QA;rw[hf];simpa using r1.snoc rk) (by unfold Qw;rw[hf];simpa using r2.snoc rx)
    exact⟨_,g,hrun,hs⟩
   ·simp only[Nat.sub_zero]at he hk'
    have hj:arr[j]?=some e:=by simpa using he
    have hek:zi g.fr w k' e.key:=qp.at_ r1 hk' (by simp[hj])
    have hyk:ZB ag kc k'=true:=List.all_eq_true.1 hall _ (List.mem_of_getElem? hk')
    obtain rfl:=Xj hkey hyk heq
    have hstay:=Jb hk hkey hek rk
    have hrun:(Instr.mapUpdate T (.map (some b)) vk vx).run P w=.ok () (Go.ChangeMaps.setBlock w b (.map (arr.modify j fun e=>{e with key:=vk,val:=vx}) c)):=by
     unfold Instr.mapUpdate
     simp only[Sem.run_bind,hu,Result.andThen_ok,MapKept.run_getObj_map hb,hck,hr,hj,Option.map_some,Option.getD_some,hstay]
     exact MapKept.run_setObj_map _ hb
    have hmod:(arr.modify j fun e=>{e with key:=vk,val:=vx}).toList=arr.toList.set j {e with key:=vk,val:=vx}:=by
     rw[Array.toList_modify,yD _ he]
    have hs:=hS.fz hK h0 (arr':=arr.modify j fun e=>{e with key:=vk,val:=vx}) (c':=c) (ks:=QA key ks xs) (xs:=Qw key y ks xs) (jR hst (fun _=>rfl))
     (by
      unfold QA;rw[hf,hmod]
      simp only[Option.isSome_some,if_true,List.map_set]
      have:=r1.set (j:=j) rk
      rwa[jP hk']at this) (by unfold Qw;rw[hf,hmod];simp only[List.map_set];exact r2.set rx)
    exact⟨_,g,hrun,hs⟩
  ·exact h.elim
 ·exact h.elim
def xW(P:Program)(S:St)(d:Nat)(T:TypeId)(m k:AV):Prop×St:=
 match ty P T with
 |some ⟨.map kt et,_,_,_⟩=>
  match Ze P kt,UR P et,m,k with
  |some (ag,kc),some z,.om t ks xs,.p key=>
   ((ZB ag kc key=true∧ks.all (ZB ag kc)=true∧d<S.n),
    (match qq key.cells ks xs 0 with
     |some (j,x)=>(S.fz t ks xs).set d (.tup [.p x,.st t j])
     |none=>(S.fz t (ks++[key]) (xs++[z])).set d (.tup [.p z,.st t ks.length])))
  |_,_,_,_=>(False,S)
 |_=>(False,S)
def Wp(S:St)(m s x:AV):Prop×St:=
 match m,s,x with
 |.om t ks xs,.st u j,.p y=>((u=t∧j<xs.length),S.fz t ks (xs.set j y))
 |_,_,_=>(False,S)
theorem YA {arr:Array MapEntry}(h:(arr.toList.map (·.born)).Nodup) {j:Nat} {e:MapEntry}(hj:arr[j]?=some e):arr.findIdx? (fun x=>(x.born:Int)==(e.born:Int))=some j:=by
 have hlt:j<arr.size:=(Array.getElem?_eq_some_iff.1 hj).1
 have hje:arr[j]=e:=(Array.getElem?_eq_some_iff.1 hj).2
 rw[Array.findIdx?_eq_some_iff_getElem]
 refine⟨hlt,by rw[hje];simp,fun i hi=>?_⟩
 have hne:arr[i].born≠e.born:=by
  intro he
  have hi':i<arr.size:=by omega
  have h1:(arr.toList.map (·.born))[i]?=(arr.toList.map (·.born))[j]?:=by simp[hi',hlt,hje,he]
  have:=(List.getElem?_inj (by simpa using hi') h).1 h1
  omega
 have hne':(arr[i].born:Int)≠(e.born:Int):=fun h=>hne (by omega)
 simpa using hne'
theorem vN {fr:Nat→Nat} {w:World}:∀{ps:List PV} {vs:List Value},qp fr w ps vs→vs.length=ps.length
 | [],vs,h=>by simp only[qp]at h;rw[h];rfl
 |p::ps,vs,h=>by
  simp only[qp]at h
  obtain⟨v,vs',rfl,_,h⟩:=h
  simp[vN h]
theorem U6 [Gi] {P:Program} {E:Ent} {S:St} {g:Gh} {a:Act} {w:World}(hS:SR E S g a w) {d:Nat} {T:TypeId} {m k:AV} {vm vk:Value}(h:(xW P S d T m k).1)(rm:za g w m vm)(rk:za g w k vk):
  ∃r w' g',(Instr.mapEntry T vm vk).run P w=.ok r w'∧SR E (xW P S d T m k).2 g' (a.put (some d) r) w':=by
 unfold xW at h⊢
 split at h
 ·rename_i kt et sz by_ ze hT
  have hu:=zo w hT
  simp only[]at hu
  split at h
  ·rename_i ag kc z t ks xs key hk hz
   obtain⟨hkey,hall,hd⟩:=h
   simp only[za]at rm
   obtain⟨b,arr,c,rfl,hK,h0,hm,r1,r2⟩:=rm
   obtain⟨hb,hst⟩:=Qt hm
   simp only[za]at rk
   obtain⟨h8,_⟩:=Qy hk
   obtain⟨cs,a1,a2,_⟩:=Qv hk hkey rk
   have hck:(Instr.checkKey false 10000 kt vk).run P w=.ok () w:=kQ false 9992 8 kt kc _ vk cs h8 (zJ hkey).2 a1 a2
   obtain⟨r,hr,hf⟩:=Q4 (P:=P) hk hkey rk hall r1 r2
   have hlt:b<w.heap.size:=(hS.own b (by rw[hK];simp)).1
   rcases hf with ⟨hf,rfl⟩|⟨j,zz,zv,hf,rfl,hzr,_,hjx,e,he,k',hk',heq⟩
   ·obtain⟨zv,hzv,hzr⟩:=KC hz g.fr w
    have hrun:(Instr.mapEntry T (.map (some b)) vk).run P w=.ok (.tuple #[zv,.int .i64 c]) (Go.ChangeMaps.setBlock w b (.map (arr.push {key:=vk,val:=zv,born:=c}) (c+1))):=by
     unfold Instr.mapEntry
     simp only[Sem.run_bind,hu,Result.andThen_ok,MapKept.run_getObj_map hb,hck,hr,hzv,MapKept.run_setObj_map _ hb]
     rfl
    have hs:=hS.fz hK h0 (arr':=arr.push {key:=vk,val:=zv,born:=c}) (c':=c+1) (ks:=ks++[key]) (xs:=xs++[z]) (yA hst _ _)
     (by simpa using r1.snoc rk) (by simpa using r2.snoc hzr)
    have hheap:=Qe (w:=w) (b:=b) (o:=.map (arr.push {key:=vk,val:=zv,born:=c}) (c+1)) hlt
    have hlen:arr.size=ks.length:=by have:=vN r1;simpa using this
    refine⟨_,_,g,hrun,?_⟩
    simp only[hf]
    refine hs.put ?_ hd
    simp only[za]
    refine⟨_,rfl,?_⟩
    simp only[zm]
    refine⟨_,_,rfl,?_,_,_,rfl,?_,rfl⟩
    ·simp only[za]
     exact hzr.ext (fun c' o ho=>⟨ho,zP (by rw[hheap,if_neg (fun e=>by subst e;omega)])⟩)
    ·simp only[za]
     exact⟨b,_,_,{key:=vk,val:=zv,born:=c},hK,xV (by rw[hheap,if_pos rfl]) (yA hst _ _),by rw[←hlen];simp,rfl⟩
   ·simp only[Nat.sub_zero]at he hk'
    have hj:arr[j]?=some e:=by simpa using he
    have hek:zi g.fr w k' e.key:=qp.at_ r1 hk' (by simp[hj])
    have hyk:ZB ag kc k'=true:=List.all_eq_true.1 hall _ (List.mem_of_getElem? hk')
    obtain rfl:=Xj hkey hyk heq
    have hstay:=Jb hk hkey hek rk
    have hrun:(Instr.mapEntry T (.map (some b)) vk).run P w=.ok (.tuple #[zv,.int .i64 e.born]) (Go.ChangeMaps.setBlock w b (.map (arr.modify j fun e=>{e with key:=vk}) c)):=by
     unfold Instr.mapEntry
     simp only[Sem.run_bind,hu,Result.andThen_ok,MapKept.run_getObj_map hb,hck,hr,hj,Option.map_some,Option.getD_some,hstay,MapKept.run_setObj_map _ hb]
     rfl
    have hmod:(arr.modify j fun e=>{e with key:=vk}).toList=arr.toList.set j {e with key:=vk}:=by
     rw[Array.toList_modify,yD _ he]
    have hst':=jR hst (j:=j) (f:=fun e=>{e with key:=vk}) (fun _=>rfl)
    have hs:=hS.fz hK h0 (arr':=arr.modify j fun e=>{e with key:=vk}) (c':=c) (ks:=ks) (xs:=xs) hst'
     (by
      rw[hmod]
      simp only[List.map_set]
      have:=r1.set (j:=j) rk
      rwa[jP hk']at this) (by
      rw[hmod];simp only[List.map_set]
      rw[jP (by simp[hj])];exact r2)
    have hheap:=Qe (w:=w) (b:=b) (o:=.map (arr.modify j fun e=>{e with key:=vk}) c) hlt
    refine⟨_,_,g,hrun,?_⟩
    simp only[hf]
    refine hs.put ?_ hd
    simp only[za]
    refine⟨_,rfl,?_⟩
    simp only[zm]
    refine⟨_,_,rfl,?_,_,_,rfl,?_,rfl⟩
    ·simp only[za]
     exact hzr.ext (fun c' o ho=>⟨ho,zP (by rw[hheap,if_neg (fun e=>by subst e;omega)])⟩)
    ·simp only[za]
     refine⟨b,_,_,{e with key:=vk},hK,xV (by rw[hheap,if_pos rfl]) hst',?_,rfl⟩
     rw[←Array.getElem?_toList,hmod,List.getElem?_set,if_pos rfl]
     simp[(Array.getElem?_eq_some_iff.1 hj).1]
  ·exact h.elim
 ·exact h.elim
theorem JL [Gi] {P:Program} {E:Ent} {S:St} {g:Gh} {a:Act} {w:World}(hS:SR E S g a w) {T:TypeId} {m s x:AV} {vm vs vx:Value}(h:(Wp S m s x).1)(rm:za g w m vm)(rs:za g w s vs)(rx:za g w x vx):
  ∃w' g',(Instr.entryStore T vm vs vx).run P w=.ok () w'∧SR E (Wp S m s x).2 g' a w':=by
 unfold Wp at h⊢
 split at h
 ·rename_i t ks xs u j y
  obtain⟨rfl,hj⟩:=h
  simp only[za]at rm rs rx
  obtain⟨b,arr,c,rfl,hK,h0,hm,r1,r2⟩:=rm
  obtain⟨b',arr',c',e,hK',hm',he,rfl⟩:=rs
  obtain rfl:=hS.ut b b' _ hK hK'
  rw[hm]at hm'
  injection hm' with hm';injection hm' with e1 e2;subst e1;subst e2
  obtain⟨hb,hst⟩:=Qt hm
  have hfi:=YA (Z5.1 hst).1 he
  have hrun:(Instr.entryStore T (.map (some b)) (.int .i64 e.born) vx).run P w=.ok () (Go.ChangeMaps.setBlock w b (.map (arr.modify j fun e=>{e with val:=vx}) c)):=by
   unfold Instr.entryStore
   simp only[Sem.run_bind,Result.andThen_ok,MapKept.run_getObj_map hb,asInt,asIntOf,Sem.run_pure,hfi]
   exact MapKept.run_setObj_map _ hb
  have hl:arr.toList[j]?=some e:=by simpa using he
  have hmod:(arr.modify j fun e=>{e with val:=vx}).toList=arr.toList.set j {e with val:=vx}:=by
   rw[Array.toList_modify,yD _ hl]
  have hs:=hS.fz hK h0 (arr':=arr.modify j fun e=>{e with val:=vx}) (c':=c) (ks:=ks) (xs:=xs.set j y) (jR hst (fun _=>rfl))
   (by
    rw[hmod];simp only[List.map_set]
    rw[jP (by simp[he])];exact r1) (by rw[hmod];simp only[List.map_set];exact r2.set rx)
  exact⟨_,g,hrun,hs⟩
 ·exact h.elim
def vY(S:St)(d:Nat):Prop×St:=(d<S.n,(S.fil ftt (qW [d] [d])).set d (.om [d] [] []))
theorem UA [Gi] {P:Program} {E:Ent} {S:St} {g:Gh} {a:Act} {w:World}(hS:SR E S g a w) {T:TypeId} {d:Nat}(h:(vY S d).1):
  ∃r w' g',(Instr.makeMap T none).run P w=.ok r w'∧SR E (vY S d).2 g' (a.put (some d) r) w':=by
 have h1:=(hS.filter ftt (qW [d] [d])).alloc (.map #[] 0)
 have hp:(g.fil ftt (qW [d] [d])).K w.heap.size=.prot:=by
  rcases Classical.em ((g.fil ftt (qW [d] [d])).K w.heap.size=.prot)with e|e
  ·exact e
  ·have:=((hS.filter ftt (qW [d] [d])).own _ e).1;omega
 have h2:=h1.yk (b:=w.heap.size) (t:=[d]) hp (.inl hS.mono) (by simp) (fun c hc=>by
  have:=(Gh.qG.1 hc).2
  simp[qW]at this)
 refine⟨.map (some w.heap.size),w.alloc (.map #[] 0),_,rfl,h2.put ?_ h⟩
 simp only[za]
 exact⟨w.heap.size, #[],0,rfl,zX _ _ _,hS.frb _ (Nat.le_refl _),xV (by rw[heap_alloc,if_pos rfl]) (by rfl),by simp[qp],by simp[qp]⟩
def UY(P:Program)(d:TypeId):Option TypeId:=
 match ty P d with
 |some ⟨.slice e,_,_,_⟩=>match ty P e with
  |some ⟨.int .u8,_,_,_⟩=>some e
  |_=>none
 |_=>none
def jW(l:List UInt8):List PV:=l.map fun c=>.int .u8 (c.toNat:Int)
def sbD(P:Program)(S:St)(d:Nat)(s t:TypeId)(x:AV):Prop×St:=
 match x with
 |.p (.str l)=>((∃e z b u,UY P t=some e∧ty P s=some ⟨.string,z,b,u⟩)∧d<S.n,S.set d (.p (.sl 1 (jW l))))
 |_=>(False,S)
theorem zfU [Gi] {P:Program} {E:Ent} {S:St} {g:Gh} {a:Act} {w:World}(hS:SR E S g a w) {d:Nat} {s t:TypeId} {x:AV} {v:Value}(h:(sbD P S d s t x).1)(hr:za g w x v):
  ∃r w' g',(convert s t v).run P w=.ok r w'∧SR E (sbD P S d s t x).2 g' (a.put (some d) r) w':=by
 unfold sbD at h⊢
 split at h
 ·rename_i l
  obtain⟨⟨e,z,b,u,h1,h2⟩,hd⟩:=h
  simp only[za,zi]at hr
  subst hr
  unfold UY at h1
  split at h1
  ·rename_i e' _ _ _ hT
   split at h1
   ·rename_i _ _ _ hE
    injection h1 with h1;subst h1
    have u1:P.underlying s=some .string:=by obtain⟨_,_,hu,_⟩:=qK h2;exact hu
    have u2:P.underlying t=some (.slice e'):=by obtain⟨_,_,hu,_⟩:=qK hT;exact hu
    have u3:P.underlying e'=some (.int .u8):=by obtain⟨_,_,hu,_⟩:=qK hE;exact hu
    have hb:=Lib.bytesWorld_size w e' ⟨l.toArray⟩
    have hsz:(⟨l.toArray⟩:ByteArray).size=l.length:=by simp[ByteArray.size]
    have key:SR E S ⟨Zu g.fr w.heap.size l.length,g.K⟩ a (Lib.bytesWorld w e' ⟨l.toArray⟩):=by
     refine hS.extend (fun c hc=>⟨Lib.bytesWorld_at_old w e' _ c hc,qm _ _ _ (by omega)⟩) ⟨rfl,rfl,rfl⟩ (by omega) (fun c hc=>?_)
     rw[qm _ _ _ (by omega)]
     exact hS.frb c (by omega)
    refine⟨_,_,_,Lib.run_convert_string_bytes w s t e' ⟨l.toArray⟩ u1 u2 u3,key.put (x:=.p (.sl 1 (jW l))) ?_ hd⟩
    simp only[za,zi]
    refine .inr ⟨w.heap.size,0,grownCap w (⟨l.toArray⟩:ByteArray).size 0 e',by rw[hsz];simp[jW],?_,?_,?_⟩
    ·have:=grownCap_ge w (⟨l.toArray⟩:ByteArray).size 0 e'
     rw[hsz]at this⊢
     simpa[jW]using this
    ·show 0+(jW l).length*1≤Zu g.fr w.heap.size l.length w.heap.size
     rw[zX];simp[jW]
    ·refine wZ fun j u hu=>?_
     have hj:j<l.length:=by
      have:=(List.getElem?_eq_some_iff.1 hu).1
      simpa using this
     have hc:=Lib.bytesWorld_cell w e' ⟨l.toArray⟩ j (by rw[hsz];exact hj)
     rw[Nat.zero_add,hc]
     simp only[List.getElem?_map,List.getElem?_eq_getElem hj,Option.map_some,Option.some.injEq]at hu
     rw[←hu]
     simp[List.getD,hj]
   ·cases h1
  ·cases h1
 ·exact h.elim
end
end Go.AM
