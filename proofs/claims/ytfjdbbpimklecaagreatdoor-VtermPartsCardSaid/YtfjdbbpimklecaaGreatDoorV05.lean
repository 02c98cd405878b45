/- A part of this seat's proofs, by an abstract machine. Conditions: each law's. -/
import Derived.Test.YtfjdbbpimklecaaGreatDoorV04
import Derived.Laws.Append
namespace Go.AM
section
def St.qg(S:St)(dst:Option Nat)(x:AV):St:=
 match dst with
 |some d=>S.set d x
 |none=>S
def dOK(S:St)(dst:Option Nat):Prop:=
 match dst with
 |some d=>d<S.n
 |none=>True
theorem SR.qg [Gi] {E:Ent} {S:St} {g:Gh} {a:Act} {w:World}(h:SR E S g a w) {dst:Option Nat} {x:AV} {v:Value}(r:za g w x v)(hd:dOK S dst):SR E (S.qg dst x) g (a.put dst v) w:=by
 cases dst with
 |none=>exact h
 |some d=>exact h.put r hd
def Ran(P:Program)(o:Oper)(a:Act)(w:World)(v:Value)(w':World):Prop:=
 (execOp a.eval o).run P w=.ok (.value v) w'∨((execOp a.eval o).run P w=.ok .skip w'∧v=undef)
def qW(t t':Tok):Tok→Bool:=fun u=>u !=t&&u !=t'
theorem SR.zbn [Gi] {E:Ent} {S:St} {g:Gh} {a:Act} {w:World}(h:SR E S g a w) {t:Tok} {z:Nat} {es:List PV} {v:Value}(r:za g w (.os t z es) v)(t':Tok):
  ∃g',g'.fr=g.fr∧(∀b u,g.K b=.root u→g'.K b=.root u)∧SR E (S.fil ftt (qW t t')) g' a w∧za g' w (.os t' z es) v:=by
 have h1:=h.filter ftt (qW t t')
 simp only[za]at r
 obtain⟨r1,r2⟩:=r
 rcases r2 with r2|⟨b,o,len,cap,e,hk,hf,hb⟩
 ·exact⟨g.fil ftt (qW t t'),rfl,fun b u hk=>Gh.zS.2 ⟨hk,rfl⟩,h1,by simp only[za];exact⟨r1,.inl r2⟩⟩
 ·have hp:(g.fil ftt (qW t t')).K b=.prot:=by
   show(g.K b).fil _ _=_
   rw[hk];simp[Kd.fil,qW]
  have ho:=h.own b (by rw[hk];simp)
  have h2:=h1.yk (t:=t') hp ho.2 ho.1 (fun c hc=>by
   have:=(Gh.qG.1 hc).2
   simp[qW]at this)
  refine⟨⟨g.fr,Zu (g.fil ftt (qW t t')).K b (.tail t')⟩,rfl,fun c u hc=>?_,h2,?_⟩
  ·show Zu _ _ _ c=_
   rw[qm _ _ _ (fun e=>by subst e;rw[hk]at hc;cases hc)]
   exact Gh.zS.2 ⟨hc,rfl⟩
  simp only[za]
  exact⟨r1,.inr ⟨b,o,len,cap,e,zX _ _ _,hf,hb⟩⟩
def Un(S:St)(d:Nat)(t:Tok)(z:Nat)(es:List PV):St:=(S.fil ftt (qW t [d])).set d (.os [d] z es)
theorem SR.Un [Gi] {E:Ent} {S:St} {g:Gh} {a:Act} {w:World}(h:SR E S g a w) {d:Nat} {t:Tok} {z:Nat} {es:List PV} {v:Value}(r:za g w (.os t z es) v)(hd:d<S.n):
  ∃g',SR E (AM.Un S d t z es) g' (a.put (some d) v) w:=by
 obtain⟨g',_,_,h1,h2⟩:=h.zbn r [d]
 exact⟨g',h1.put h2 hd⟩
def jY(P:Program)(T:TypeId):Option Nat:=
 match ty P T with
 |some ⟨.slice e,_,_,_⟩=>(ty P e).map (·.size)
 |_=>none
theorem uD {g:Gh} {w:World} {x:AV} {v:Value}(h:Zv x=true)(r:za g w x v)(t:Tok)(z:Nat):za g w (.os t z []) v:=by
 unfold Zv at h
 split at h
 ·exact LeA.uD t z _ _ _ r
 ·cases h
def ug(P:Program)(S:St)(d:Nat)(T:TypeId)(x:AV):Prop×St:=
 match x with
 |.os t z es=>(d<S.n,Un S d t z es)
 |x=>match jY P T with
  |some z=>((Zv x=true)∧d<S.n,S.set d (.os [d] z []))
  |none=>((Zv x=true)∧d<S.n,S.set d x)
def xS(P:Program)(S:St)(d:Option Nat)(T:TypeId)(x:AV):Prop×St:=
 match d with
 |some d=>if Zv x&&S.rm.contains d then(d<S.n,S.set d x)else ug P S d T x
 |none=>(False,S)
theorem Km [Gi] {P:Program} {E:Ent} {S:St} {g:Gh} {a:Act} {w:World}(hS:SR E S g a w) {d:Nat} {T:TypeId} {x:AV} {v:Value}(h:(ug P S d T x).1)(hr:za g w x v):
  ∃g',SR E (ug P S d T x).2 g' (a.put (some d) v) w:=by
 unfold ug at h⊢
 split at h
 ·obtain⟨g',h1⟩:=hS.Un hr h
  exact⟨g',h1⟩
 ·cases hz:jY P T with
  |none=>simp only[hz]at h⊢;exact⟨g,hS.put hr h.2⟩
  |some z=>simp only[hz]at h⊢;exact⟨g,hS.put (uD h.1 hr _ _) h.2⟩
theorem wI [Gi] {P:Program} {E:Ent} {S:St} {g:Gh} {a:Act} {w:World}(hS:SR E S g a w) {o:Oper} {x:Operand}(ho:o.op=.assign x)(h:(xS P S o.dst o.type (S.ev x)).1):
  ∃v w' g',Ran P o a w v w'∧SR E (xS P S o.dst o.type (S.ev x)).2 g' (a.put o.dst v) w':=by
 have hrun:Ran P o a w (a.eval x) w:=by left;unfold execOp;rw[ho];rfl
 unfold xS at h⊢
 cases hd:o.dst with
 |none=>simp only[hd]at h
 |some d=>
  simp only[hd]at h⊢
  split at h
  ·rename_i hc
   rw[if_pos hc]
   exact⟨_,_,g,hrun,hS.put (hS.ev x) h⟩
  ·rename_i hc
   rw[if_neg hc]
   obtain⟨g',h1⟩:=Km hS h (hS.ev x)
   exact⟨_,_,g',hrun,h1⟩
def Zx(S:St)(t:Tok)(cs:List AV):St:=
 {S.fil (fun u=>u !=t) ftt with rs:=jg (S.fil (fun u=>u !=t) ftt).rs t (cs.map (AV.upd (fil (fun u=>u !=t) ftt)))}
theorem Yg {g:Gh} {w:World} {x:PV} {v:Value}:za g w (.p x) v↔zi g.fr w x v:=by simp only[za]
theorem RC.get {g:Gh} {w:World}:∀{cs:List AV} {vs:List Value},RC g w cs vs→∀{j:Nat} {x:AV},cs[j]?=some x→∃v,vs[j]?=some v∧v.oneCell'=true∧za g w x v:=by
 intro cs vs r j x hj
 obtain⟨v,hv,hr⟩:=r.1.get hj
 exact⟨v,hv,r.2 v (List.mem_iff_getElem?.2 ⟨j,hv⟩),hr⟩
theorem SR.Zx [Gi] {E:Ent} {S:St} {g:Gh} {a:Act} {w:World}(h:SR E S g a w)(t:Tok)(hpin:t ∉ S.pin) {cs:List AV} {arr:Array Value}(T:TypeId)(r:RC g w cs arr.toList):
  ∃g',SR E (AM.Zx S t cs) g' a (w.alloc (.cells arr T))∧g'.K w.heap.size=.root t:=by
 have hpin':∀u,u∈S.pin→(u !=t)=true:=fun u hu=>by simp;intro e;subst e;exact hpin hu
 have h1:=(h.filter (fun u=>u !=t) ftt hpin').alloc (.cells arr T)
 have hp:(g.fil (fun u=>u !=t) ftt).K w.heap.size=.prot:=by
  rcases Classical.em (g.K w.heap.size=.prot)with e|e
  ·show(g.K w.heap.size).fil _ _=_;rw[e];rfl
  ·have:=(h.own _ e).1;omega
 have hext:Ext g.fr w g.fr (w.alloc (.cells arr T)):=fun b o ho=>⟨ho,zP (by
  rw[heap_alloc,if_neg]
  intro e;subst e
  have:=h.frb w.heap.size (Nat.le_refl _);omega)⟩
 have hkeep:xc g w (g.fil (fun u=>u !=t) ftt) (w.alloc (.cells arr T)) (fun u=>u !=t) ftt:=⟨hext,fun b u hu hk=>⟨Gh.zS.2 ⟨hk,hu⟩,fun _ hn=>Blk.of_heap (by
  rw[heap_alloc,if_neg]
  intro e;subst e
  have:=(h.own _ (by rw[hk];simp)).1;omega) hn⟩,fun b u hu hk=>⟨Gh.qG.2 ⟨hk,hu⟩,rfl,Zo (by
  rw[heap_alloc,if_neg]
  intro e;subst e
  have:=(h.own _ (by rw[hk];simp)).1;omega)⟩⟩
 have h2:=h1.uX (b:=w.heap.size) (t:=t) (cs:=cs.map (AV.upd (fil (fun u=>u !=t) ftt))) (arr:=arr) (T:=T) hp (.inl h.mono) (fun c hc=>by
   have:=(Gh.zS.1 hc).2;simp at this)
  (by rw[heap_alloc,if_pos rfl]) (h.frb _ (Nat.le_refl _)) (by have:=r.1.len;simp at this⊢;omega)
  (fun j x hj=>by
   simp only[List.getElem?_map,Option.map_eq_some_iff]at hj
   obtain⟨y,hy,rfl⟩:=hj
   obtain⟨v,hv,h1,hr⟩:=r.get hy
   exact⟨v,by simpa using hv,h1,za.upd hkeep _ _ hr⟩)
 exact⟨_,h2,zX _ _ _⟩
def bzC(d:Tok)(T:TypeId)(n:Nat):List PV→List AV
 |.opq (.pointer none)::l=>.bz d T n::l.map .p
 |l=>l.map .p
def uG(P:Program)(S:St)(d:Option Nat)(T:TypeId):Prop×St:=
 match d,ty P T with
 |some d,some ⟨_,_,_,some zs⟩=>((zs.all PV.one=true∧[d] ∉ S.pin)∧d<S.n,
   (if S.bt.contains T then {Zx S [d] (zs.map .p)with rs:=jg (Zx S [d] (zs.map .p)).rs [d] (bzC [d] T zs.length zs)}else Zx S [d] (zs.map .p)).set d (.lp [d] 0))
 |_,_=>(False,S)
theorem Yb [Gi] {P:Program} {E:Ent} {S:St} {g:Gh} {a:Act} {w:World}(hS:SR E S g a w) {o:Oper} {T:TypeId}(ho:o.op=.alloc T)(h:(uG P S o.dst T).1):
  ∃v w' g',Ran P o a w v w'∧SR E (uG P S o.dst T).2 g' (a.put o.dst v) w':=by
 unfold uG at h⊢
 split at h
 ·rename_i d ds sz by_ zs hd hT
  obtain⟨⟨h1,hpin⟩,h2⟩:=h
  obtain⟨zv,hz1,hz2⟩:=QG hT rfl
  have hz:zr g.fr w zs zv.cells.toList:=zr.of_map hz2 h1
  obtain⟨g',k1,k2⟩:=hS.Zx [d] hpin T hz.Kj
  refine⟨.pointer (some ⟨w.heap.size,0,none⟩),w.alloc (.cells zv.cells T),g',.inl ?_,?_⟩
  ·unfold execOp;rw[ho]
   simp only[Instr.alloc,Sem.run_bind,hz1,Result.andThen_ok,newVar,newRow,run_newObj,Sem.run_pure]
   rfl
  ·rw[hd]
   split
   ·have hb:(w.alloc (.cells zv.cells T)).heap[w.heap.size]?=some (.cells zv.cells T (0,0)):=by rw[heap_alloc,if_pos rfl]
    have hlen:zv.cells.size=zs.length:=by
     have:=congrArg List.length hz2
     simpa using this
    have k3:=k1.zky (cs':=bzC [d] T zs.length zs) k2 hb (by
      unfold bzC
      split<;>simp[hlen]) (fun j x hj=>?_)
    ·exact k3.put (by simp only[za];exact⟨_,k2,rfl⟩) h2
    ·have old:∀p,zs[j]?=some p→x=.p p→∃v,zv.cells[j]?=some v∧v.oneCell'=true∧za g' (w.alloc (.cells zv.cells T)) x v:=fun p hp hx=>by
      subst hx
      obtain⟨cs,hl,_,arr,T',hb',_,hc⟩:=k1.roots _ _ k2
      rw[hb]at hb'
      injection hb' with hb';injection hb' with e1 e2 e3;subst e1
      have hcs:cs=(zs.map .p).map (AV.upd (fil (fun u=>u !=[d]) ftt)):=by
       have:zw (Zx S [d] (zs.map .p)).rs [d]=some ((zs.map .p).map (AV.upd (fil (fun u=>u !=[d]) ftt))):=by
        simp only[Zx];rw[Z0,if_pos rfl]
       rw[this]at hl;injection hl with hl;exact hl.symm
      exact hc j (.p p) (by rw[hcs];simp[hp,AV.upd,fil,ZS])
     unfold bzC at hj
     split at hj
     ·rename_i l
      cases j with
      |zero=>
       simp at hj;subst hj
       obtain⟨v,hv,h1,hr⟩:=hz.get (i:=0) (x:=.opq (.pointer none)) rfl
       simp only[zi]at hr
       subst hr
       exact⟨_,by simpa using hv,rfl,by simp only[za];exact⟨_,k2,⟨_,hb,hlen⟩,.inl trivial⟩⟩
      |succ j=>
       simp only[List.getElem?_cons_succ,List.getElem?_map,Option.map_eq_some_iff]at hj
       obtain⟨p,hp,rfl⟩:=hj
       exact old p (by simpa using hp) rfl
     ·simp only[List.getElem?_map,Option.map_eq_some_iff]at hj
      obtain⟨p,hp,rfl⟩:=hj
      exact old p hp rfl
   ·exact k1.put (by simp only[za];exact⟨_,k2,rfl⟩) h2
 ·exact h.elim
def zeb(S:St)(d:Option Nat)(x:Operand):Prop×St:=
 match d,(ky (unG (S.ev x)).2).2 with
 |some d,some cs=>(((unG (S.ev x)).1∧(ky (unG (S.ev x)).2).1∧[d] ∉ S.pin)∧d<S.n,(Zx S [d] cs).set d (.lp [d] 0))
 |_,_=>(False,S)
theorem zaJ [Gi] {P:Program} {E:Ent} {S:St} {g:Gh} {a:Act} {w:World}(hS:SR E S g a w) {o:Oper} {T:TypeId} {x:Operand}(ho:o.op=.box T x)(h:(zeb S o.dst x).1):
  ∃v w' g',Ran P o a w v w'∧SR E (zeb S o.dst x).2 g' (a.put o.dst v) w':=by
 unfold zeb at h⊢
 split at h
 ·rename_i d cs hd hy
  obtain⟨⟨h0,h1,hpin⟩,h2⟩:=h
  have hr:=W9 h1 hy (zp h0 (hS.ev x))
  obtain⟨g',k1,k2⟩:=hS.Zx [d] hpin T hr
  refine⟨.pointer (some ⟨w.heap.size,0,none⟩),w.alloc (.cells (a.eval x).cells T),g',.inl ?_,?_⟩
  ·unfold execOp;rw[ho]
   simp only[Instr.box,Sem.run_bind,Result.andThen_ok,newVar,newRow,run_newObj,Sem.run_pure]
   rfl
  ·rw[hd]
   exact k1.put (by simp only[za];exact⟨_,k2,rfl⟩) h2
 ·exact h.elim
def zL {α:Type}(l:List α)(o:Nat)(xs:List α):List α:=l.take o++xs++l.drop (o+xs.length)
theorem yV {α:Type}(l:List α)(o:Nat)(xs:List α)(h:o+xs.length≤l.length)(j:Nat):
  (zL l o xs)[j]?=if o≤j∧j<o+xs.length then xs[j-o]? else l[j]?:=by
 unfold zL
 have hm:(l.take o).length=o:=by simp;omega
 rw[List.append_assoc,List.getElem?_append,hm]
 by_cases h1:j<o
 ·rw[if_pos h1,if_neg (by omega),List.getElem?_take,if_pos h1]
 ·rw[if_neg h1,List.getElem?_append]
  by_cases h2:j-o<xs.length
  ·rw[if_pos h2,if_pos (by omega)]
  ·rw[if_neg h2,if_neg (by omega),List.getElem?_drop]
   congr 1;omega
theorem SR.QB [Gi] {P:Program} {E:Ent} {S:St} {g:Gh} {a:Act} {w:World}(h:SR E S g a w) {b o:Nat} {t:Tok} {cs ys:List AV} {vs:List Value}(hk:g.K b=.root t)(hl:zw S.rs t=some cs)
  (hlen:o+ys.length≤cs.length) (hv:vs.length=ys.length) (hr:∀(j:Nat) (x:AV),ys[j]?=some x→∃v,vs[j]?=some v∧v.oneCell'=true∧za g w x v):
  ∃w',(storeCells ⟨b,o,none⟩ vs).run P w=.ok () w'∧SR E {S with rs:=jg S.rs t (zL cs o ys)} g a w':=by
 obtain⟨cs',hl',h0,arr,T,hb,hle,hc⟩:=h.roots b t hk
 rw[hl]at hl'
 injection hl' with hl'
 subst hl'
 have hone:∀v∈vs,v.oneCell'=true:=by
  intro v hv'
  obtain⟨j,hj⟩:=List.mem_iff_getElem?.1 hv'
  have hjl:=(List.getElem?_eq_some_iff.1 hj).1
  obtain⟨u,hu,h1,_⟩:=hr j ys[j] (List.getElem?_eq_getElem (by omega))
  rw[hj]at hu;injection hu with hu;subst hu;exact h1
 have hrun:=run_storeCells_at P b o T vs 0 arr w hb (by omega) hone
 refine⟨_,hrun,?_⟩
 simp only[Nat.add_zero]
 have hsp:arr.toList.take o++vs++arr.toList.drop (o+vs.length)=zL arr.toList o vs:=rfl
 rw[hsp]
 refine h.zi3 hk hb ?_ ?_ ?_
 ·simp[zL];omega
 ·simp[zL];omega
 ·intro j x hj
  rw[yV _ _ _ hlen]at hj
  have:((zL arr.toList o vs).toArray)[j]?=(zL arr.toList o vs)[j]?:=by simp
  rw[this,yV _ _ _ (by simp;omega)]
  rw[hv]
  by_cases hc':o≤j∧j<o+ys.length
  ·rw[if_pos hc']at hj⊢
   exact hr _ _ hj
  ·rw[if_neg hc']at hj⊢
   simpa using hc j x hj
def zbs:AV→Bool
 |.p x=>x.one
 |.lp _ _=>true
 |.la _ _ _ _=>true
 |_=>false
theorem Xs {g:Gh} {w:World} {x:AV} {v:Value}(h:zbs x=true)(r:za g w x v):v.oneCell'=true:=by
 cases x with
 |p x=>simp only[za]at r;exact zi.one h r
 |lp t o=>simp only[za]at r;obtain⟨_,_,rfl⟩:=r;rfl
 |la t z o n=>simp only[za]at r;obtain⟨_,_,_,_,rfl,_⟩:=r;rfl
 |_=>cases h
def Z1(S:St)(t:Tok)(cs:List AV):St:={S with rs:=jg S.rs t cs}
def WA(P:Program)(S:St)(T:TypeId)(x y:AV):Prop×St:=
 match ty P T,x with
 |some D,.lp t o=>
  match zw S.rs t with
  |some cs=>
   if zW D.desc then
    match y with
    |.p (.agg zs)=>(zs.length=D.size∧o+zs.length≤cs.length,Z1 S t (zL cs o (zs.map .p)))
    |.ag zs=>(zs.length=D.size∧o+zs.length≤cs.length,Z1 S t (zL cs o zs))
    |_=>(False,S)
   else
    match y with
    |.os u z es=>
     match zw (S.fil ftt (qW u (t++[o]))).rs t with
     |some cs'=>(D.size=1∧o+1≤cs'.length,Z1 (S.fil ftt (qW u (t++[o]))) t (zL cs' o [.os (t++[o]) z es]))
     |none=>(False,S)
    |y=>
     if Zv y then
      match jY P T with
      |some z=>(D.size=1∧o+1≤cs.length,Z1 S t (zL cs o [.os (t++[o]) z []]))
      |none=>(D.size=1∧o+1≤cs.length,Z1 S t (zL cs o [y]))
     else(zbs y=true∧D.size=1∧o+1≤cs.length,Z1 S t (zL cs o [y]))
  |none=>(False,S)
 |_,_=>(False,S)
theorem vW {v:Value}(h:v.oneCell'=true):v.cells= #[v]:=by cases v<;>first|rfl|cases h
theorem JT [Gi] {P:Program} {E:Ent} {S:St} {g:Gh} {a:Act} {w:World}(hS:SR E S g a w) {T:TypeId} {x y:AV} {u v:Value}(h:(WA P S T x y).1)
  (rx:za g w x u) (ry:za g w y v):∃w' g',(Instr.storeAt T u v).run P w=.ok () w'∧SR E (WA P S T x y).2 g' a w':=by
 unfold WA at h⊢
 split at h
 ·rename_i D t o hT
  simp only[za]at rx
  obtain⟨b,hk,rfl⟩:=rx
  have hsz:=fun w=>qc w hT
  have go:∀w',(v.cells.size=D.size)→(storeCells ⟨b,o,none⟩ v.cells.toList).run P w=.ok () w'→(Instr.storeAt T (.pointer (some ⟨b,o,none⟩)) v).run P w=.ok () w':=by
   intro w' h1 h2
   simp[Instr.storeAt,Instr.sureAddr,storeVar,hsz,h1,h2]
  cases hl:zw S.rs t with
  |none=>simp only[hl]at h
  |some cs=>
   simp only[hl]at h⊢
   cases hA:zW D.desc with
   |true=>
    simp only[hA,if_true]at h⊢
    split at h
    ·rename_i zs
     simp only[za,zi]at ry
     obtain⟨vs,rfl,hL⟩:=ry
     obtain⟨h1,h2⟩:=h
     have hlv:=zr.length hL
     obtain⟨w',hw,hs⟩:=hS.QB (P:=P) (o:=o) (ys:=zs.map .p) (vs:=vs.toList) hk hl (by simpa using h2) (by simpa using hlv) (fun j x hj=>by
      simp only[List.getElem?_map,Option.map_eq_some_iff]at hj
      obtain⟨y,hy,rfl⟩:=hj
      obtain⟨v,hv,h1,hr⟩:=hL.get hy
      exact⟨v,hv,h1,by simp only[za];exact hr⟩)
     refine⟨w',g,go w' ?_ hw,hs⟩
     simp[Value.cells]at hlv⊢;omega
    ·rename_i zs
     simp only[za]at ry
     obtain⟨vs,rfl,h1',hL⟩:=ry
     obtain⟨h1,h2⟩:=h
     have hlv:=hL.len
     obtain⟨w',hw,hs⟩:=hS.QB (P:=P) (o:=o) (ys:=zs) (vs:=vs.toList) hk hl h2 hlv (fun j x hj=>RC.get ⟨hL,h1'⟩ hj)
     refine⟨w',g,go w' ?_ hw,hs⟩
     simp[Value.cells]at hlv⊢;omega
    ·exact h.elim
   |false=>
    simp only[hA]at h⊢
    have one:∀(S':St) (g':Gh) (cs':List AV) (y':AV),SR E S' g' a w→g'.K b=.root t→zw S'.rs t=some cs'→D.size=1→o+1≤cs'.length→v.oneCell'=true→za g' w y' v→
      ∃w' g',(Instr.storeAt T (.pointer (some ⟨b,o,none⟩)) v).run P w=.ok () w'∧SR E (Z1 S' t (zL cs' o [y'])) g' a w':=by
     intro S' g' cs' y' k1 k2 k3 k4 k5 k6 k7
     have hc:=vW k6
     obtain⟨w',hw,hs⟩:=k1.QB (P:=P) (o:=o) (ys:=[y']) (vs:=[v]) k2 k3 (by simpa using k5) rfl (fun j x hj=>by
      cases j with
      |zero=>simp at hj;subst hj;exact⟨v,rfl,k6,k7⟩
      |succ j=>simp at hj)
     exact⟨w',g',go w' (by rw[hc,k4];rfl) (by rw[hc];exact hw),hs⟩
    simp only[Bool.false_eq_true,if_false]at h⊢
    split at h
    ·rename_i u z es
     obtain⟨g',_,hkr,k1,k2⟩:=hS.zbn ry (t++[o])
     cases hl':zw (S.fil ftt (qW u (t++[o]))).rs t with
     |none=>simp only[hl']at h
     |some cs'=>
      simp only[hl']at h⊢
      have k3:g'.K b=.root t:=hkr b t hk
      refine one _ _ _ _ k1 k3 hl' h.1 h.2 ?_ k2
      simp only[za]at ry
      exact zi.one rfl ry.1
    ·rename_i hno
     split at h
     ·rename_i hn
      simp only[hn,if_true]
      have hv1:v.oneCell'=true:=by
       unfold Zv at hn
       split at hn
       ·simp only[za,zi]at ry;subst ry;rfl
       ·cases hn
      cases hz:jY P T with
      |none=>simp only[hz]at h⊢;exact one _ _ _ _ hS hk hl h.1 h.2 hv1 ry
      |some z=>simp only[hz]at h⊢;exact one _ _ _ _ hS hk hl h.1 h.2 hv1 (uD hn ry _ _)
     ·rename_i hn
      simp only[hn]
      exact one _ _ _ _ hS hk hl h.2.1 h.2.2 (Xs h.1 ry) ry
 ·exact h.elim
theorem Vh {α:Type} {xs ys:List α} {j:Nat} {v:α}(h:(xs++ys)[j]?=some v):xs[j]?=some v∨(xs.length≤j∧ys[j-xs.length]?=some v):=by
 rw[List.getElem?_append]at h
 split at h
 ·exact .inl h
 ·exact .inr ⟨by omega,h⟩
theorem qo.zid {fr:Nat→Nat} {w:World} {z b:Nat}:∀{es:List PV} {o:Nat},qo fr w z b es o→
  ∃vs:List Value,vs.length=es.length*z∧(∀(j:Nat) (v:Value),vs[j]?=some v→v.oneCell'=true∧w.cell? ⟨b,o+j,none⟩=some v)∧
   (es.all PV.fits=true→zr fr w (es.flatMap PV.cells) vs)∧
   ∀(fr':Nat→Nat) (w':World) (b' o':Nat),Ext fr w fr' w'→(∀(j:Nat) (v:Value),vs[j]?=some v→w'.cell? ⟨b',o'+j,none⟩=some v)→qo fr' w' z b' es o'
 | [],o,_=>⟨[],by simp,by simp,by simp[zr],fun _ _ _ _ _ _=>by simp[qo]⟩
 |e::es,o,r=>by
  simp only[qo]at r
  obtain⟨⟨v,h1,h2,h3⟩,h4⟩:=r
  obtain⟨vs,k1,k2,kf,k3⟩:=qo.zid h4
  refine⟨v.cells.toList++vs,?_,fun j u hu=>?_,fun hf=>?_,fun fr' w' b' o' hx hc=>?_⟩
  ·simp[k1,h2,Nat.add_mul];omega
  ·rcases Vh hu with h|⟨hj,h⟩
   ·exact h3 j u (by simpa using h)
   ·have:=k2 _ u h
    simp only[Array.length_toList,h2]at hj this
    have e1:o+z+(j-z)=o+j:=by omega
    rwa[e1]at this
  ·simp only[List.all_cons,Bool.and_eq_true]at hf
   simp only[List.flatMap_cons]
   exact(zi.cells hf.1 h1).append (kf hf.2)
  ·simp only[qo]
   refine⟨⟨v,h1.ext hx,h2,fun j c hj=>⟨(h3 j c hj).1,?_⟩⟩,k3 fr' w' b' (o'+z) hx (fun j u hu=>?_)⟩
   ·refine hc j c ?_
    have hjl:=(Array.getElem?_eq_some_iff.1 hj).1
    rw[List.getElem?_append_left (by simpa using hjl)]
    simpa using hj
   ·have:=hc (z+j) u (by
     rw[List.getElem?_append_right (by simp[h2])]
     simpa[h2]using hu)
    rwa[←Nat.add_assoc]at this
theorem zi.zbN {fr:Nat→Nat} {w:World} {z:Nat} {es:List PV} {v:Value}(r:zi fr w (.sl z es) v)(P:Program):
  ∃vs:List Value,vs.length=es.length*z∧(∀u∈vs,u.oneCell'=true)∧(∀w',(∀b o,w'.cell? ⟨b,o,none⟩=w.cell? ⟨b,o,none⟩)→(Builtin.firstCells z es.length v).run P w'=.ok vs.toArray w')∧(es.all PV.fits=true→zr fr w (es.flatMap PV.cells) vs)∧
   (∀w' k,k≤es.length→(∀b o,w'.cell? ⟨b,o,none⟩=w.cell? ⟨b,o,none⟩)→(Builtin.firstCells z k v).run P w'=.ok (vs.take (k*z)).toArray w')∧
   ∀(fr':Nat→Nat) (w':World) (b' o':Nat),Ext fr w fr' w'→(∀(j:Nat) (v:Value),vs[j]?=some v→w'.cell? ⟨b',o'+j,none⟩=some v)→qo fr' w' z b' es o':=by
 simp only[zi]at r
 rcases r with ⟨rfl,a0,cap0,rfl⟩|⟨b,o,cap,rfl,_,hf,he⟩
 ·have h0:∀w',(Builtin.firstCells z 0 (.slice a0 0 cap0)).run P w'=.ok #[] w':=fun w'=>by
   cases a0<;>simp[Builtin.firstCells,loadCells,loadCellsFrom]
  exact⟨[],by simp,by simp,fun w' _=>h0 w',by simp[zr],fun w' k hk _=>by
   have:k=0:=by simpa using hk
   subst this
   simpa using h0 w',fun _ _ _ _ _ _=>by simp[qo]⟩
 ·obtain⟨vs,k1,k2,kf,k3⟩:=he.zid
  refine⟨vs,k1,fun u hu=>?_,fun w' hw=>?_,kf,fun w' k hk hw=>?_,k3⟩
  ·obtain⟨j,hj⟩:=List.mem_iff_getElem?.1 hu
   exact(k2 j u hj).1
  ·simp only[Builtin.firstCells]
   rw[←k1]
   refine run_loadCells_list w' ⟨b,o,none⟩ vs (fun j u hj=>?_)
   rw[addr_add,hw b (o+j)]
   exact(k2 j u hj).2
  ·simp only[Builtin.firstCells]
   have hkl:k*z≤vs.length:=by rw[k1];exact Nat.mul_le_mul_right _ hk
   have:=run_loadCells_list (P:=P) w' ⟨b,o,none⟩ (vs.take (k*z)) (fun j u hj=>by
    have hj':vs[j]?=some u:=by
     rw[List.getElem?_take]at hj
     split at hj
     ·exact hj
     ·cases hj
    rw[addr_add,hw b (o+j)]
    exact(k2 j u hj').2)
   rwa[show(vs.take (k*z)).length=k*z from by simp;omega]at this
def zeV:AV→Option (Nat×List PV)
 |.p (.sl z ys)=>some (z,ys)
 |.os _ z ys=>some (z,ys)
 |.p (.str s)=>some (1,s.map fun c=>.int .u8 c.toNat)
 |_=>none
def Src(P:Program)(fr:Nat→Nat)(w:World)(z:Nat)(ys:List PV)(v:Value):Prop:=
 (∀w',(Builtin.lenOf v).run P w'=.ok ys.length w')∧
  ∃vs:List Value,vs.length=ys.length*z∧(∀u∈vs,u.oneCell'=true)∧(∀w',(∀b o,w'.cell? ⟨b,o,none⟩=w.cell? ⟨b,o,none⟩)→(Builtin.firstCells z ys.length v).run P w'=.ok vs.toArray w')∧(ys.all PV.fits=true→zr fr w (ys.flatMap PV.cells) vs)∧
   (∀w' k,k≤ys.length→(∀b o,w'.cell? ⟨b,o,none⟩=w.cell? ⟨b,o,none⟩)→(Builtin.firstCells z k v).run P w'=.ok (vs.take (k*z)).toArray w')∧
   ∀(fr':Nat→Nat) (w':World) (b' o':Nat),Ext fr w fr' w'→(∀(j:Nat) (v:Value),vs[j]?=some v→w'.cell? ⟨b',o'+j,none⟩=some v)→qo fr' w' z b' ys o'
theorem Src.sl {P:Program} {fr:Nat→Nat} {w:World} {z:Nat} {ys:List PV} {v:Value}(r:zi fr w (.sl z ys) v):Src P fr w z ys v:=by
 obtain⟨base,cap,e,_⟩:=jm r
 exact⟨fun w'=>by rw[e];rfl,r.zbN P⟩
theorem wZ {fr:Nat→Nat} {w:World} {b:Nat}:∀{s:List UInt8} {o:Nat},(∀(j:Nat) (v:Value),(s.map fun c=>Value.int .u8 (c.toNat:Int))[j]?=some v→w.cell? ⟨b,o+j,none⟩=some v)→
  qo fr w 1 b (s.map fun c=>.int .u8 (c.toNat:Int)) o
 | [],o,_=>by simp[qo]
 |c::s,o,hc=>by
  simp only[List.map_cons,qo]
  refine⟨⟨.int .u8 c.toNat,by simp only[zi],rfl,fun j u hj=>?_⟩,wZ (fun j u hu=>?_)⟩
  ·cases j with
   |zero=>simp[Value.cells]at hj;subst hj;exact⟨rfl,hc 0 _ (by simp)⟩
   |succ j=>simp[Value.cells]at hj
  ·have:=hc (j+1) u (by simpa using hu)
   rwa[show o+(j+1)=o+1+j from by omega]at this
theorem zbh {P:Program} {g:Gh} {w:World} {x:AV} {z:Nat} {ys:List PV} {v:Value}(h:zeV x=some (z,ys))(r:za g w x v):Src P g.fr w z ys v:=by
 unfold zeV at h
 split at h
 ·simp only[Option.some.injEq,Prod.mk.injEq]at h;obtain⟨rfl,rfl⟩:=h
  simp only[za]at r;exact Src.sl r
 ·simp only[Option.some.injEq,Prod.mk.injEq]at h;obtain⟨rfl,rfl⟩:=h
  simp only[za]at r;exact Src.sl r.1
 ·rename_i s
  simp only[Option.some.injEq,Prod.mk.injEq]at h;obtain⟨rfl,rfl⟩:=h
  simp only[za,zi]at r;subst r
  refine⟨fun w'=>by simp[Builtin.lenOf,ByteArray.size],s.map fun c=>.int .u8 c.toNat,by simp,by simp[Value.oneCell'],fun w' _=>?_,fun _=>?_,fun w' k hk _=>?_,fun fr' w' b' o' _ hc=>wZ hc⟩
  ·simp only[Builtin.firstCells,Sem.run_pure]
   have:(⟨s.toArray⟩:ByteArray).extract 0 (s.map fun c=>PV.int .u8 c.toNat).length=⟨s.toArray⟩:=by
    rw[VR _ _ _ (by omega) (by simp)];simp
   rw[this];simp
  ·have hb:∀l:List UInt8,zr g.fr w ((l.map fun c=>PV.int .u8 (c.toNat:Int)).flatMap PV.cells) (l.map fun c=>Value.int .u8 (c.toNat:Int)):=by
    intro l
    induction l with
    |nil=>simp[zr]
    |cons c l ih=>
     simp only[List.map_cons,List.flatMap_cons,PV.cells,List.singleton_append,zr]
     exact⟨_,_,rfl,rfl,by simp only[zi],ih⟩
   exact hb s
  ·simp only[Builtin.firstCells,Sem.run_pure]
   have:(⟨s.toArray⟩:ByteArray).extract 0 k=⟨(s.take k).toArray⟩:=by
    rw[VR _ _ _ (by omega) (by simpa using hk)];simp
   rw[this];simp
 ·cases h
theorem jL {fr:Nat→Nat} {w:World} {z b:Nat}:∀{es:List PV} {vs:List Value} {o:Nat},zr fr w (es.flatMap PV.cells) vs→(∀e∈es,e.cells.length=z∧e.fits=true)→
  (∀(j:Nat) (v:Value),vs[j]?=some v→w.cell? ⟨b,o+j,none⟩=some v)→qo fr w z b es o
 | [],vs,o,_,_,_=>by simp[qo]
 |e::es,vs,o,r,hz,hc=>by
  obtain⟨he,hf⟩:=hz e (by simp)
  simp only[List.flatMap_cons]at r
  have r1:=r.take z
  have r2:=r.drop z
  rw[←he,List.take_left]at r1
  rw[←he,List.drop_left]at r2
  have hl:=zr.length r1
  simp only[qo]
  refine⟨?_,jL (vs:=vs.drop e.cells.length) r2 (fun e' h'=>hz e' (by simp[h'])) (fun j v hj=>?_)⟩
  ·have cellsOK:∀(v:Value),v.cells.toList=vs.take e.cells.length→v.cells.size=z∧∀(j:Nat) (c:Value),v.cells[j]?=some c→c.oneCell'=true∧w.cell? ⟨b,o+j,none⟩=some c:=by
    intro v hv
    refine⟨by rw[←Array.length_toList,hv,hl,he],fun j c hj=>?_⟩
    have hj':(vs.take e.cells.length)[j]?=some c:=by rw[←hv];simpa using hj
    have hjl:j<e.cells.length:=by
     have:=(List.getElem?_eq_some_iff.1 hj').1;omega
    obtain⟨u,hu,h1,_⟩:=r1.get (i:=j) (x:=e.cells[j]) (List.getElem?_eq_getElem hjl)
    rw[hj']at hu;injection hu with hu;subst hu
    refine⟨h1,hc j c ?_⟩
    rw[List.getElem?_take,if_pos hjl]at hj';exact hj'
   cases e with
   |agg cs=>
    refine⟨.agg (vs.take (PV.agg cs).cells.length).toArray,?_,cellsOK _ rfl⟩
    simp only[zi]
    exact⟨_,rfl,r1⟩
   |_=>
    simp only[PV.cells,zr]at r1
    obtain⟨v,vs',e1,h1,h2,rfl⟩:=r1
    exact⟨v,h2,cellsOK v (by rw[vW h1];exact e1.symm)⟩
  ·rw[List.getElem?_drop]at hj
   have:=hc _ _ hj
   rw[he]at this
   rw[Nat.add_assoc];exact this
def kJ(z:Nat):Nat→List PV→List PV
 |0,_=>[]
 |n+1,l=>.agg (l.take z)::kJ z n (l.drop z)
theorem UX(z:Nat):∀(n:Nat) (l:List PV),(kJ z n l).length=n
 |0,_=>rfl
 |n+1,l=>by rw[kJ,List.length_cons,UX z n]
theorem Vc(z:Nat):∀(n:Nat) (l:List PV),l.length=n*z→(kJ z n l).flatMap PV.cells=l
 |0,l,h=>by
  rw[Nat.zero_mul]at h
  rw[List.eq_nil_of_length_eq_zero h];rfl
 |n+1,l,h=>by
  rw[Nat.succ_mul]at h
  rw[kJ,List.flatMap_cons,Vc z n (l.drop z) (by rw[List.length_drop];omega)]
  simp only[PV.cells,List.take_append_drop]
theorem WD(z:Nat):∀(n:Nat) (l:List PV),l.length=n*z→∀e∈kJ z n l,e.cells.length=z∧e.fits=true
 |0,_,_=>by simp[kJ]
 |n+1,l,h=>fun e he=>by
  rw[Nat.succ_mul]at h
  rcases List.mem_cons.1 he with rfl|he
  ·exact⟨by show(l.take z).length=z;rw[List.length_take];omega,rfl⟩
  ·exact WD z n (l.drop z) (by rw[List.length_drop];omega) e he
theorem Vy {fr:Nat→Nat} {w:World}:∀{ps:List PV} {vs:List Value},vs.length=ps.length→(∀(j:Nat) (p:PV),ps[j]?=some p→∃v,vs[j]?=some v∧v.oneCell'=true∧zi fr w p v)→zr fr w ps vs
 | [],vs,hl,_=>by simp only[zr];exact List.eq_nil_of_length_eq_zero hl
 |p::ps,[],hl,_=>by simp at hl
 |p::ps,u::vs,hl,h=>by
  simp only[zr]
  obtain⟨v,hv,h1,h2⟩:=h 0 p rfl
  simp at hv;subst hv
  exact⟨u,vs,rfl,h1,h2,Vy (by simpa using hl) fun j q hq=>by simpa using h (j+1) q (by simpa using hq)⟩
def zbc(S:St)(x:AV):Option (Prop×Nat×List PV):=
 match x with
 |.la t z o n=>
  match zw S.rs t with
  |some cs=>if z=1 then match xD ((cs.drop o).take n)with
    |some ys=>some ((z=1∧ys.length=n∧ys.all PV.one=true),1,ys)
    |none=>none
   else match xD ((cs.drop o).take (n*z))with
    |some ys=>some ((0<z∧ys.length=n*z∧ys.all PV.one=true),z,kJ z n ys)
    |none=>none
  |none=>none
 |x=>match zeV x with
  |some (z,ys)=>some (True,z,ys)
  |none=>none
theorem xN {x:PV}(h:x.one=true):x.fits=true∧x.cells=[x]:=by
 cases x<;>first|(cases h;done)|exact⟨rfl,rfl⟩|exact⟨h,rfl⟩
theorem zaa:∀{l:List PV},l.all PV.one=true→l.flatMap PV.cells=l
 | [],_=>rfl
 |x::l,h=>by
  simp only[List.all_cons,Bool.and_eq_true]at h
  rw[List.flatMap_cons,(xN h.1).2,zaa h.2];rfl
theorem Src.la {P:Program} {fr:Nat→Nat} {w:World} {b o o' n cap z:Nat} {arr:Array Value} {T:TypeId} {es ys:List PV}(hb:w.heap[b]?=some (.cells arr T (0,0)))(hf:es.flatMap PV.cells=ys)(hz:∀e∈es,e.cells.length=z∧e.fits=true)
  (hn:es.length=n) (hl:ys.length=n*z) (_:0<z) (ho:n=0∨o'=o)
  (hc:∀(j:Nat) (y:PV),ys[j]?=some y→∃u,arr[o+j]?=some u∧u.oneCell'=true∧zi fr w y u):Src P fr w z es (.slice (some ⟨b,o',none⟩) n cap):=by
 have hsz:∀j,j<ys.length→o+j<arr.size:=fun j hj=>by
  obtain⟨u,hu,_⟩:=hc j ys[j] (List.getElem?_eq_getElem hj)
  exact(Array.getElem?_eq_some_iff.1 hu).1
 have hvl:((arr.toList.drop o).take ys.length).length=ys.length:=by
  have ea:arr.toList.length=arr.size:=Array.length_toList
  rw[List.length_take,List.length_drop,ea]
  rcases Nat.eq_zero_or_pos ys.length with e|e
  ·omega
  ·have:=hsz (ys.length-1) (by omega);omega
 obtain⟨vs,hvs⟩:∃vs,vs=(arr.toList.drop o).take ys.length:=⟨_,rfl⟩
 rw[←hvs]at hvl
 have v3:∀(j:Nat) (u:Value),vs[j]?=some u→arr[o+j]?=some u:=fun j u hj=>by
  rw[hvs,List.getElem?_take]at hj
  split at hj
  ·rw[List.getElem?_drop]at hj;simpa using hj
  ·cases hj
 have v0:∀(j:Nat) (y:PV),ys[j]?=some y→∃u,vs[j]?=some u∧u.oneCell'=true∧zi fr w y u:=fun j y hj=>by
  obtain⟨u,hu,h1,hr⟩:=hc j y hj
  refine⟨u,?_,h1,hr⟩
  rw[hvs,List.getElem?_take,if_pos (List.getElem?_eq_some_iff.1 hj).1,List.getElem?_drop]
  simpa using hu
 have v4:zr fr w ys vs:=Vy hvl v0
 have v2:∀u∈vs,u.oneCell'=true:=fun u hu=>by
  obtain⟨j,hj⟩:=List.mem_iff_getElem?.1 hu
  have hjl:j<ys.length:=by have:=(List.getElem?_eq_some_iff.1 hj).1;omega
  obtain⟨u',hu',h1,_⟩:=v0 j ys[j] (List.getElem?_eq_getElem hjl)
  rw[hj]at hu';injection hu' with e;rw[e];exact h1
 have hfirst:∀w' k,k≤es.length→(∀b o,w'.cell? ⟨b,o,none⟩=w.cell? ⟨b,o,none⟩)→(Builtin.firstCells z k (.slice (some ⟨b,o',none⟩) n cap)).run P w'=.ok (vs.take (k*z)).toArray w':=by
  intro w' k hk hw
  simp only[Builtin.firstCells]
  rcases Nat.eq_zero_or_pos k with hk0|hk0
  ·subst hk0;simp[loadCells,loadCellsFrom]
  ·have ho':o'=o:=ho.resolve_left (by omega)
   subst ho'
   have hkz:k*z≤n*z:=Nat.mul_le_mul_right _ (by omega)
   have:=run_loadCells_list (P:=P) w' ⟨b,o',none⟩ (vs.take (k*z)) (fun j u hj=>by
    have hj':vs[j]?=some u:=by
     rw[List.getElem?_take]at hj
     split at hj
     ·exact hj
     ·cases hj
    rw[addr_add,hw b (o'+j),zT hb]
    exact v3 j u hj')
   rwa[show(vs.take (k*z)).length=k*z from by rw[List.length_take];omega]at this
 refine⟨fun w'=>by simp[Builtin.lenOf,hn],vs,by rw[hvl,hl,hn],v2,fun w' hw=>?_,fun _=>by rw[hf];exact v4,hfirst,fun fr' w' b' o' hx hcell=>?_⟩
 ·have:=hfirst w' es.length (Nat.le_refl _) hw
  rwa[List.take_of_length_le (by rw[hvl,hl,hn];omega)]at this
 ·exact jL (by rw[hf];exact zr.ext hx _ _ v4) hz hcell
theorem vz [Gi] {P:Program} {E:Ent} {S:St} {g:Gh} {a:Act} {w:World}(hS:SR E S g a w) {x:AV} {c:Prop} {z:Nat} {ys:List PV} {v:Value}(e:zbc S x=some (c,z,ys))(hc:c)(r:za g w x v):Src P g.fr w z ys v:=by
 unfold zbc at e
 split at e
 ·rename_i t z' o n
  simp only[za]at r
  obtain⟨b,o',cap,hk,rfl,hcap,ho,_⟩:=r
  obtain⟨cs,hl,h0,arr,T,hb,hle,hcs⟩:=hS.roots b t hk
  simp only[hl]at e
  have common:∀(m:Nat) (ys':List PV),xD ((cs.drop o).take m)=some ys'→ys'.length=m→∀(j:Nat) (y:PV),ys'[j]?=some y→∃u,arr[o+j]?=some u∧u.oneCell'=true∧zi g.fr w y u:=by
   intro m ys' hx hn j y hj
   have he:=x9 hx
   have hjl:j<m:=by have:=(List.getElem?_eq_some_iff.1 hj).1;omega
   have hget:cs[o+j]?=some (.p y):=by
    have:=congrArg (·[j]?) he
    simp only[List.getElem?_take,hjl,if_true,List.getElem?_drop,List.getElem?_map,hj,Option.map_some]at this
    exact this
   obtain⟨u,hu,h1,hr⟩:=hcs _ _ hget
   simp only[za]at hr
   exact⟨u,hu,h1,hr⟩
  split at e
  ·cases hx:xD ((cs.drop o).take n)with
   |none=>simp only[hx]at e;cases e
   |some ys'=>
    simp only[hx,Option.some.injEq,Prod.mk.injEq]at e
    obtain⟨rfl,rfl,rfl⟩:=e
    obtain⟨_,hn,hone⟩:=hc
    exact Src.la hb (zaa hone) (fun q hq=>⟨by rw[(xN (List.all_eq_true.1 hone q hq)).2];rfl,(xN (List.all_eq_true.1 hone q hq)).1⟩) hn (by omega) (by omega) ho (common n ys' hx hn)
  ·cases hx:xD ((cs.drop o).take (n*z'))with
   |none=>simp only[hx]at e;cases e
   |some ys'=>
    simp only[hx,Option.some.injEq,Prod.mk.injEq]at e
    obtain⟨rfl,rfl,rfl⟩:=e
    obtain⟨hz0,hn,_⟩:=hc
    exact Src.la hb (Vc _ _ _ hn) (WD _ _ _ hn) (UX _ _ _) hn hz0 ho (common _ ys' hx hn)
 ·split at e
  ·rename_i z' ys' h
   simp only[Option.some.injEq,Prod.mk.injEq]at e
   obtain⟨rfl,rfl,rfl⟩:=e
   exact zbh h r
  ·cases e
def vF:TypeDesc→Bool
 |.slice _=>true
 |.string=>true
 |_=>false
theorem kY {P:Program} {w:World} {sT xT tt e:TypeId} {D X T:Ty}(hT:ty P sT=some D)(hD:D.desc=.slice e)(hX:ty P xT=some X)(hXi:vF X.desc=true)(hE:ty P e=some T)
  {zs:List PV} (hz:T.zero=some zs) {base:Option Addr} {len cap n:Nat} {x:Value} (hl:∀w,(Builtin.lenOf x).run P w=.ok n w) (hgrow:cap<len+n) (hb:0<T.bytes) (hfit:(len+n)*T.bytes≤140737488355328)
  {os ns:List Value} (ho:∀w',(∀b o,w'.cell? ⟨b,o,none⟩=w.cell? ⟨b,o,none⟩)→(Builtin.firstCells T.size len (.slice base len cap)).run P w'=.ok os.toArray w')
  (hn:∀w',(∀b o,w'.cell? ⟨b,o,none⟩=w.cell? ⟨b,o,none⟩)→(Builtin.firstCells T.size n x).run P w'=.ok ns.toArray w'):
  ∃ncap rest,len+n≤ncap∧rest.length=(ncap- (len+n))*zs.length∧
   (Builtin.append_ #[sT,xT] tt #[.slice base len cap,x]).run P w=
    .ok (.slice (some ⟨w.heap.size,0,none⟩) (len+n) ncap) (w.drew.alloc (.cells (os++ns++rest).toArray e)):=by
 have hu:=fun w=>zo (P:=P) w hT
 rw[hD]at hu
 have hux:=fun w=>zo (P:=P) w hX
 have hs:=fun w=>qc (P:=P) w hE
 obtain⟨i,hi,hib⟩:=zcm hE
 obtain⟨zv,hz1,hz2⟩:=QG hE hz
 have hzl:zv.cells.size=zs.length:=by rw[←hz2];simp
 have ho':=ho w.drew (fun _ _=>rfl)
 have hn':=hn w.drew (fun _ _=>rfl)
 have hle:len+n≤grownCap w (len+n) cap e:=by simp[grownCap,Question.cut]
 refine⟨grownCap w (len+n) cap e,(Builtin.zeroCells zv.cells (grownCap w (len+n) cap e- (len+n))).toList,hle,by simp[Builtin.zeroCells,hzl],?_⟩
 have h48:¬(281474976710656<Builtin.nextslicecap (len+n) cap*i.bytes):=by
  rw[hib]
  have:=growslice_fits hgrow hfit
  omega
 have hib0:i.bytes≠0:=by omega
 have hg:¬(len+n≤cap):=by omega
 have hq:(∃k,X.desc=.slice k)∨X.desc=.string:=by
  cases hq:X.desc<;>simp[hq,vF]at hXi<;>simp
 rcases hq with ⟨k,hq⟩|hq
 ·rw[hq]at hux
  simp[Builtin.append_,hu,hux,hs,hl,hi,hz1,hg,h48,hib0,Question.forced,ho',hn',newRow,grownCap]
  congr 2
  apply Array.ext'
  simp
 ·rw[hq]at hux
  simp[Builtin.append_,hu,hux,hs,hl,hi,hz1,hg,h48,hib0,Question.forced,ho',hn',newRow,grownCap]
  congr 2
  apply Array.ext'
  simp
theorem QV {P:Program} {w w':World} {sT xT tt e:TypeId} {D X T:Ty}(hT:ty P sT=some D)(hD:D.desc=.slice e)(hX:ty P xT=some X)(hXi:vF X.desc=true)(hE:ty P e=some T)
  {base:Option Addr} {len cap n:Nat} {x:Value} (hl:∀w,(Builtin.lenOf x).run P w=.ok n w) (hroom:len+n≤cap)
  {ns:List Value} (hn:(Builtin.firstCells T.size n x).run P w=.ok ns.toArray w)
  (hst:match base with|some a=>(storeCells (a.add (len*T.size)) ns).run P w=.ok () w'|none=>w'=w):
  (Builtin.append_ #[sT,xT] tt #[.slice base len cap,x]).run P w=.ok (.slice base (len+n) cap) w':=by
 have hu:=fun w=>zo (P:=P) w hT
 rw[hD]at hu
 have hux:=fun w=>zo (P:=P) w hX
 have hs:=fun w=>qc (P:=P) w hE
 have hq:(∃k,X.desc=.slice k)∨X.desc=.string:=by
  cases hq:X.desc<;>simp[hq,vF]at hXi<;>simp
 rcases hq with ⟨k,hq⟩|hq<;>rw[hq]at hux<;>cases base with
 |none=>simp only[]at hst;subst hst;simp[Builtin.append_,hu,hux,hs,hl,hroom,hn]
 |some a=>simp only[]at hst;simp[Builtin.append_,hu,hux,hs,hl,hroom,hn,hst]
end
end Go.AM
