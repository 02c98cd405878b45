/- A part of this seat's proofs, by an abstract machine. Conditions: each law's. -/
import Derived.Test.YtfjdbbpimklecaaGreatDoorT04
import Derived.Laws.Append
namespace Go.AM
section
def St.qE(S:St)(dst:Option Nat)(x:AV):St:=
 match dst with
 |some d=>S.set d x
 |none=>S
def dOK(S:St)(dst:Option Nat):Prop:=
 match dst with
 |some d=>d<S.n
 |none=>True
theorem SR.qE [Gi] {E:Ent} {S:St} {g:Gh} {a:Act} {w:World}(h:SR E S g a w) {dst:Option Nat} {x:AV} {v:Value}(r:zb g w x v)(hd:dOK S dst):SR E (S.qE dst x) g (a.put dst v) w:=by
 cases dst with
 |none=>exact h
 |some d=>exact h.put r hd
def Ran(P:Program)(o:Oper)(a:Act)(w:World)(v:Value)(w':World):Prop:=
 (execOp a.eval o).run P w=.ok (.value v) w'∨((execOp a.eval o).run P w=.ok .skip w'∧v=undef)
def Ze(t t':Tok):Tok→Bool:=fun u=>u !=t&&u !=t'
theorem SR.zeV [Gi] {E:Ent} {S:St} {g:Gh} {a:Act} {w:World}(h:SR E S g a w) {t:Tok} {z:Nat} {es:List PV} {v:Value}(r:zb g w (.os t z es) v)(t':Tok):
  ∃g',g'.fr=g.fr∧(∀b u,g.K b=.root u→g'.K b=.root u)∧SR E (S.fil ftt (Ze t t')) g' a w∧zb g' w (.os t' z es) v:=by
 have h1:=h.filter ftt (Ze t t')
 simp only[zb]at r
 obtain⟨r1,r2⟩:=r
 rcases r2 with r2|⟨b,o,len,cap,e,hk,hf,hb⟩
 ·exact⟨g.fil ftt (Ze t t'),rfl,fun b u hk=>Gh.qc.2 ⟨hk,rfl⟩,h1,by simp only[zb];exact⟨r1,.inl r2⟩⟩
 ·have hp:(g.fil ftt (Ze t t')).K b=.prot:=by
   show(g.K b).fil _ _=_
   rw[hk];simp[Kd.fil,Ze]
  have ho:=h.own b (by rw[hk];simp)
  have h2:=h1.yq (t:=t') hp ho.2 ho.1 (fun c hc=>by
   have:=(Gh.qT.1 hc).2
   simp[Ze]at this)
  refine⟨⟨g.fr,ZV (g.fil ftt (Ze t t')).K b (.tail t')⟩,rfl,fun c u hc=>?_,h2,?_⟩
  ·show ZV _ _ _ c=_
   rw[qR _ _ _ (fun e=>by subst e;rw[hk]at hc;cases hc)]
   exact Gh.qc.2 ⟨hc,rfl⟩
  simp only[zb]
  exact⟨r1,.inr ⟨b,o,len,cap,e,qo _ _ _,hf,hb⟩⟩
def JX(S:St)(d:Nat)(t:Tok)(z:Nat)(es:List PV):St:=(S.fil ftt (Ze t [d])).set d (.os [d] z es)
theorem SR.JX [Gi] {E:Ent} {S:St} {g:Gh} {a:Act} {w:World}(h:SR E S g a w) {d:Nat} {t:Tok} {z:Nat} {es:List PV} {v:Value}(r:zb g w (.os t z es) v)(hd:d<S.n):
  ∃g',SR E (AM.JX S d t z es) g' (a.put (some d) v) w:=by
 obtain⟨g',_,_,h1,h2⟩:=h.zeV r [d]
 exact⟨g',h1.put h2 hd⟩
def yw(P:Program)(T:TypeId):Option Nat:=
 match ty P T with
 |some ⟨.slice e,_,_,_⟩=>(ty P e).map (·.size)
 |_=>none
theorem V2 {g:Gh} {w:World} {x:AV} {v:Value}(h:ZW x=true)(r:zb g w x v)(t:Tok)(z:Nat):zb g w (.os t z []) v:=by
 unfold ZW at h
 split at h
 ·exact LeA.V2 t z _ _ _ r
 ·cases h
def Vi(P:Program)(S:St)(d:Nat)(T:TypeId)(x:AV):Prop×St:=
 match x with
 |.os t z es=>(d<S.n,JX S d t z es)
 |x=>match yw P T with
  |some z=>((ZW x=true)∧d<S.n,S.set d (.os [d] z []))
  |none=>((ZW x=true)∧d<S.n,S.set d x)
def uB(P:Program)(S:St)(d:Option Nat)(T:TypeId)(x:AV):Prop×St:=
 match d with
 |some d=>if ZW x&&S.rm.contains d then(d<S.n,S.set d x)else Vi P S d T x
 |none=>(False,S)
theorem Xm [Gi] {P:Program} {E:Ent} {S:St} {g:Gh} {a:Act} {w:World}(hS:SR E S g a w) {d:Nat} {T:TypeId} {x:AV} {v:Value}(h:(Vi P S d T x).1)(hr:zb g w x v):
  ∃g',SR E (Vi P S d T x).2 g' (a.put (some d) v) w:=by
 unfold Vi at h⊢
 split at h
 ·obtain⟨g',h1⟩:=hS.JX hr h
  exact⟨g',h1⟩
 ·cases hz:yw P T with
  |none=>simp only[hz]at h⊢;exact⟨g,hS.put hr h.2⟩
  |some z=>simp only[hz]at h⊢;exact⟨g,hS.put (V2 h.1 hr _ _) h.2⟩
theorem uZ [Gi] {P:Program} {E:Ent} {S:St} {g:Gh} {a:Act} {w:World}(hS:SR E S g a w) {o:Oper} {x:Operand}(ho:o.op=.assign x)(h:(uB P S o.dst o.type (S.ev x)).1):
  ∃v w' g',Ran P o a w v w'∧SR E (uB P S o.dst o.type (S.ev x)).2 g' (a.put o.dst v) w':=by
 have hrun:Ran P o a w (a.eval x) w:=by left;unfold execOp;rw[ho];rfl
 unfold uB at h⊢
 cases hd:o.dst with
 |none=>simp only[hd]at h
 |some d=>
  simp only[hd]at h⊢
  split at h
  ·rename_i hc
   rw[if_pos hc]
   exact⟨_,_,g,hrun,hS.put (hS.ev x) h⟩
  ·rename_i hc
   rw[if_neg hc]
   obtain⟨g',h1⟩:=Xm hS h (hS.ev x)
   exact⟨_,_,g',hrun,h1⟩
def ZX(S:St)(t:Tok)(cs:List AV):St:=
 {S.fil (fun u=>u !=t) ftt with rs:=QW (S.fil (fun u=>u !=t) ftt).rs t (cs.map (AV.upd (fil (fun u=>u !=t) ftt)))}
theorem vX {g:Gh} {w:World} {x:PV} {v:Value}:zb g w (.p x) v↔zl g.fr w x v:=by simp only[zb]
theorem RC.get {g:Gh} {w:World}:∀{cs:List AV} {vs:List Value},RC g w cs vs→∀{j:Nat} {x:AV},cs[j]?=some x→∃v,vs[j]?=some v∧v.oneCell'=true∧zb g w x v:=by
 intro cs vs r j x hj
 obtain⟨v,hv,hr⟩:=r.1.get hj
 exact⟨v,hv,r.2 v (List.mem_iff_getElem?.2 ⟨j,hv⟩),hr⟩
theorem SR.ZX [Gi] {E:Ent} {S:St} {g:Gh} {a:Act} {w:World}(h:SR E S g a w)(t:Tok)(hpin:t ∉ S.pin) {cs:List AV} {arr:Array Value}(T:TypeId)(r:RC g w cs arr.toList):
  ∃g',SR E (AM.ZX S t cs) g' a (w.alloc (.cells arr T))∧g'.K w.heap.size=.root t:=by
 have hpin':∀u,u∈S.pin→(u !=t)=true:=fun u hu=>by simp;intro e;subst e;exact hpin hu
 have h1:=(h.filter (fun u=>u !=t) ftt hpin').alloc (.cells arr T)
 have hp:(g.fil (fun u=>u !=t) ftt).K w.heap.size=.prot:=by
  rcases Classical.em (g.K w.heap.size=.prot)with e|e
  ·show(g.K w.heap.size).fil _ _=_;rw[e];rfl
  ·have:=(h.own _ e).1;omega
 have hext:Ext g.fr w g.fr (w.alloc (.cells arr T)):=fun b o ho=>⟨ho,zQ (by
  rw[heap_alloc,if_neg]
  intro e;subst e
  have:=h.frb w.heap.size (Nat.le_refl _);omega)⟩
 have hkeep:vu g w (g.fil (fun u=>u !=t) ftt) (w.alloc (.cells arr T)) (fun u=>u !=t) ftt:=⟨hext,fun b u hu hk=>⟨Gh.qc.2 ⟨hk,hu⟩,fun _ hn=>Blk.of_heap (by
  rw[heap_alloc,if_neg]
  intro e;subst e
  have:=(h.own _ (by rw[hk];simp)).1;omega) hn⟩,fun b u hu hk=>⟨Gh.qT.2 ⟨hk,hu⟩,rfl,ZP (by
  rw[heap_alloc,if_neg]
  intro e;subst e
  have:=(h.own _ (by rw[hk];simp)).1;omega)⟩⟩
 have h2:=h1.Ui (b:=w.heap.size) (t:=t) (cs:=cs.map (AV.upd (fil (fun u=>u !=t) ftt))) (arr:=arr) (T:=T) hp (.inl h.mono) (fun c hc=>by
   have:=(Gh.qc.1 hc).2;simp at this)
  (by rw[heap_alloc,if_pos rfl]) (h.frb _ (Nat.le_refl _)) (by have:=r.1.len;simp at this⊢;omega)
  (fun j x hj=>by
   simp only[List.getElem?_map,Option.map_eq_some_iff]at hj
   obtain⟨y,hy,rfl⟩:=hj
   obtain⟨v,hv,h1,hr⟩:=r.get hy
   exact⟨v,by simpa using hv,h1,zb.upd hkeep _ _ hr⟩)
 exact⟨_,h2,qo _ _ _⟩
def bzC(d:Tok)(T:TypeId)(n:Nat):List PV→List AV
 |.opq (.pointer none)::l=>.bz d T n::l.map .p
 |l=>l.map .p
def UK(P:Program)(S:St)(d:Option Nat)(T:TypeId):Prop×St:=
 match d,ty P T with
 |some d,some ⟨_,_,_,some zs⟩=>((zs.all PV.one=true∧[d] ∉ S.pin)∧d<S.n,
   (if S.bt.contains T then {ZX S [d] (zs.map .p)with rs:=QW (ZX S [d] (zs.map .p)).rs [d] (bzC [d] T zs.length zs)}else ZX S [d] (zs.map .p)).set d (.lp [d] 0))
 |_,_=>(False,S)
theorem zbJ [Gi] {P:Program} {E:Ent} {S:St} {g:Gh} {a:Act} {w:World}(hS:SR E S g a w) {o:Oper} {T:TypeId}(ho:o.op=.alloc T)(h:(UK P S o.dst T).1):
  ∃v w' g',Ran P o a w v w'∧SR E (UK P S o.dst T).2 g' (a.put o.dst v) w':=by
 unfold UK at h⊢
 split at h
 ·rename_i d ds sz by_ zs hd hT
  obtain⟨⟨h1,hpin⟩,h2⟩:=h
  obtain⟨zv,hz1,hz2⟩:=jd hT rfl
  have hz:zw g.fr w zs zv.cells.toList:=zw.of_map hz2 h1
  obtain⟨g',k1,k2⟩:=hS.ZX [d] hpin T hz.Xk
  refine⟨.pointer (some ⟨w.heap.size,0,none⟩),w.alloc (.cells zv.cells T),g',.inl ?_,?_⟩
  ·unfold execOp;rw[ho]
   simp only[Instr.alloc,Sem.run_bind,hz1,Result.andThen_ok,newVar,newRow,run_newObj,Sem.run_pure]
   rfl
  ·rw[hd]
   split
   ·have hb:(w.alloc (.cells zv.cells T)).heap[w.heap.size]?=some (.cells zv.cells T (0,0)):=by rw[heap_alloc,if_pos rfl]
    have hlen:zv.cells.size=zs.length:=by
     have:=congrArg List.length hz2
     simpa using this
    have k3:=k1.zpZ (cs':=bzC [d] T zs.length zs) k2 hb (by
      unfold bzC
      split<;>simp[hlen]) (fun j x hj=>?_)
    ·exact k3.put (by simp only[zb];exact⟨_,k2,rfl⟩) h2
    ·have old:∀p,zs[j]?=some p→x=.p p→∃v,zv.cells[j]?=some v∧v.oneCell'=true∧zb g' (w.alloc (.cells zv.cells T)) x v:=fun p hp hx=>by
      subst hx
      obtain⟨cs,hl,_,arr,T',hb',_,hc⟩:=k1.roots _ _ k2
      rw[hb]at hb'
      injection hb' with hb';injection hb' with e1 e2 e3;subst e1
      have hcs:cs=(zs.map .p).map (AV.upd (fil (fun u=>u !=[d]) ftt)):=by
       have:zn (ZX S [d] (zs.map .p)).rs [d]=some ((zs.map .p).map (AV.upd (fil (fun u=>u !=[d]) ftt))):=by
        simp only[ZX];rw[QF,if_pos rfl]
       rw[this]at hl;injection hl with hl;exact hl.symm
      exact hc j (.p p) (by rw[hcs];simp[hp,AV.upd,fil,QJ])
     unfold bzC at hj
     split at hj
     ·rename_i l
      cases j with
      |zero=>
       simp at hj;subst hj
       obtain⟨v,hv,h1,hr⟩:=hz.get (i:=0) (x:=.opq (.pointer none)) rfl
       simp only[zl]at hr
       subst hr
       exact⟨_,by simpa using hv,rfl,by simp only[zb];exact⟨_,k2,⟨_,hb,hlen⟩,.inl trivial⟩⟩
      |succ j=>
       simp only[List.getElem?_cons_succ,List.getElem?_map,Option.map_eq_some_iff]at hj
       obtain⟨p,hp,rfl⟩:=hj
       exact old p (by simpa using hp) rfl
     ·simp only[List.getElem?_map,Option.map_eq_some_iff]at hj
      obtain⟨p,hp,rfl⟩:=hj
      exact old p hp rfl
   ·exact k1.put (by simp only[zb];exact⟨_,k2,rfl⟩) h2
 ·exact h.elim
def zjW(S:St)(d:Option Nat)(x:Operand):Prop×St:=
 match d,(xt (unG (S.ev x)).2).2 with
 |some d,some cs=>(((unG (S.ev x)).1∧(xt (unG (S.ev x)).2).1∧[d] ∉ S.pin)∧d<S.n,(ZX S [d] cs).set d (.lp [d] 0))
 |_,_=>(False,S)
theorem zfL [Gi] {P:Program} {E:Ent} {S:St} {g:Gh} {a:Act} {w:World}(hS:SR E S g a w) {o:Oper} {T:TypeId} {x:Operand}(ho:o.op=.box T x)(h:(zjW S o.dst x).1):
  ∃v w' g',Ran P o a w v w'∧SR E (zjW S o.dst x).2 g' (a.put o.dst v) w':=by
 unfold zjW at h⊢
 split at h
 ·rename_i d cs hd hy
  obtain⟨⟨h0,h1,hpin⟩,h2⟩:=h
  have hr:=Ka h1 hy (zu h0 (hS.ev x))
  obtain⟨g',k1,k2⟩:=hS.ZX [d] hpin T hr
  refine⟨.pointer (some ⟨w.heap.size,0,none⟩),w.alloc (.cells (a.eval x).cells T),g',.inl ?_,?_⟩
  ·unfold execOp;rw[ho]
   simp only[Instr.box,Sem.run_bind,Result.andThen_ok,newVar,newRow,run_newObj,Sem.run_pure]
   rfl
  ·rw[hd]
   exact k1.put (by simp only[zb];exact⟨_,k2,rfl⟩) h2
 ·exact h.elim
def zW {α:Type}(l:List α)(o:Nat)(xs:List α):List α:=l.take o++xs++l.drop (o+xs.length)
theorem wW {α:Type}(l:List α)(o:Nat)(xs:List α)(h:o+xs.length≤l.length)(j:Nat):
  (zW l o xs)[j]?=if o≤j∧j<o+xs.length then xs[j-o]? else l[j]?:=by
 unfold zW
 have hm:(l.take o).length=o:=by simp;omega
 rw[List.append_assoc,List.getElem?_append,hm]
 by_cases h1:j<o
 ·rw[if_pos h1,if_neg (by omega),List.getElem?_take,if_pos h1]
 ·rw[if_neg h1,List.getElem?_append]
  by_cases h2:j-o<xs.length
  ·rw[if_pos h2,if_pos (by omega)]
  ·rw[if_neg h2,if_neg (by omega),List.getElem?_drop]
   congr 1;omega
theorem SR.jD [Gi] {P:Program} {E:Ent} {S:St} {g:Gh} {a:Act} {w:World}(h:SR E S g a w) {b o:Nat} {t:Tok} {cs ys:List AV} {vs:List Value}(hk:g.K b=.root t)(hl:zn S.rs t=some cs)
  (hlen:o+ys.length≤cs.length) (hv:vs.length=ys.length) (hr:∀(j:Nat) (x:AV),ys[j]?=some x→∃v,vs[j]?=some v∧v.oneCell'=true∧zb g w x v):
  ∃w',(storeCells ⟨b,o,none⟩ vs).run P w=.ok () w'∧SR E {S with rs:=QW S.rs t (zW cs o ys)} g a w':=by
 obtain⟨cs',hl',h0,arr,T,hb,hle,hc⟩:=h.roots b t hk
 rw[hl]at hl'
 injection hl' with hl'
 subst hl'
 have hone:∀v∈vs,v.oneCell'=true:=by
  intro v hv'
  obtain⟨j,hj⟩:=List.mem_iff_getElem?.1 hv'
  have hjl:=(List.getElem?_eq_some_iff.1 hj).1
  obtain⟨u,hu,h1,_⟩:=hr j ys[j] (List.getElem?_eq_getElem (by omega))
  rw[hj]at hu;injection hu with hu;subst hu;exact h1
 have hrun:=run_storeCells_at P b o T vs 0 arr w hb (by omega) hone
 refine⟨_,hrun,?_⟩
 simp only[Nat.add_zero]
 have hsp:arr.toList.take o++vs++arr.toList.drop (o+vs.length)=zW arr.toList o vs:=rfl
 rw[hsp]
 refine h.zny hk hb ?_ ?_ ?_
 ·simp[zW];omega
 ·simp[zW];omega
 ·intro j x hj
  rw[wW _ _ _ hlen]at hj
  have:((zW arr.toList o vs).toArray)[j]?=(zW arr.toList o vs)[j]?:=by simp
  rw[this,wW _ _ _ (by simp;omega)]
  rw[hv]
  by_cases hc':o≤j∧j<o+ys.length
  ·rw[if_pos hc']at hj⊢
   exact hr _ _ hj
  ·rw[if_neg hc']at hj⊢
   simpa using hc j x hj
def zey:AV→Bool
 |.p x=>x.one
 |.lp _ _=>true
 |.la _ _ _ _=>true
 |_=>false
theorem zcE {g:Gh} {w:World} {x:AV} {v:Value}(h:zey x=true)(r:zb g w x v):v.oneCell'=true:=by
 cases x with
 |p x=>simp only[zb]at r;exact zl.one h r
 |lp t o=>simp only[zb]at r;obtain⟨_,_,rfl⟩:=r;rfl
 |la t z o n=>simp only[zb]at r;obtain⟨_,_,_,_,rfl,_⟩:=r;rfl
 |_=>cases h
def QS(S:St)(t:Tok)(cs:List AV):St:={S with rs:=QW S.rs t cs}
def UE(P:Program)(S:St)(T:TypeId)(x y:AV):Prop×St:=
 match ty P T,x with
 |some D,.lp t o=>
  match zn S.rs t with
  |some cs=>
   if qq D.desc then
    match y with
    |.p (.agg zs)=>(zs.length=D.size∧o+zs.length≤cs.length,QS S t (zW cs o (zs.map .p)))
    |.ag zs=>(zs.length=D.size∧o+zs.length≤cs.length,QS S t (zW cs o zs))
    |_=>(False,S)
   else
    match y with
    |.os u z es=>
     match zn (S.fil ftt (Ze u (t++[o]))).rs t with
     |some cs'=>(D.size=1∧o+1≤cs'.length,QS (S.fil ftt (Ze u (t++[o]))) t (zW cs' o [.os (t++[o]) z es]))
     |none=>(False,S)
    |y=>
     if ZW y then
      match yw P T with
      |some z=>(D.size=1∧o+1≤cs.length,QS S t (zW cs o [.os (t++[o]) z []]))
      |none=>(D.size=1∧o+1≤cs.length,QS S t (zW cs o [y]))
     else(zey y=true∧D.size=1∧o+1≤cs.length,QS S t (zW cs o [y]))
  |none=>(False,S)
 |_,_=>(False,S)
theorem wX {v:Value}(h:v.oneCell'=true):v.cells= #[v]:=by cases v<;>first|rfl|cases h
theorem zaU [Gi] {P:Program} {E:Ent} {S:St} {g:Gh} {a:Act} {w:World}(hS:SR E S g a w) {T:TypeId} {x y:AV} {u v:Value}(h:(UE P S T x y).1)
  (rx:zb g w x u) (ry:zb g w y v):∃w' g',(Instr.storeAt T u v).run P w=.ok () w'∧SR E (UE P S T x y).2 g' a w':=by
 unfold UE at h⊢
 split at h
 ·rename_i D t o hT
  simp only[zb]at rx
  obtain⟨b,hk,rfl⟩:=rx
  have hsz:=fun w=>qz w hT
  have go:∀w',(v.cells.size=D.size)→(storeCells ⟨b,o,none⟩ v.cells.toList).run P w=.ok () w'→(Instr.storeAt T (.pointer (some ⟨b,o,none⟩)) v).run P w=.ok () w':=by
   intro w' h1 h2
   simp[Instr.storeAt,Instr.sureAddr,storeVar,hsz,h1,h2]
  cases hl:zn S.rs t with
  |none=>simp only[hl]at h
  |some cs=>
   simp only[hl]at h⊢
   cases hA:qq D.desc with
   |true=>
    simp only[hA,if_true]at h⊢
    split at h
    ·rename_i zs
     simp only[zb,zl]at ry
     obtain⟨vs,rfl,hL⟩:=ry
     obtain⟨h1,h2⟩:=h
     have hlv:=zw.length hL
     obtain⟨w',hw,hs⟩:=hS.jD (P:=P) (o:=o) (ys:=zs.map .p) (vs:=vs.toList) hk hl (by simpa using h2) (by simpa using hlv) (fun j x hj=>by
      simp only[List.getElem?_map,Option.map_eq_some_iff]at hj
      obtain⟨y,hy,rfl⟩:=hj
      obtain⟨v,hv,h1,hr⟩:=hL.get hy
      exact⟨v,hv,h1,by simp only[zb];exact hr⟩)
     refine⟨w',g,go w' ?_ hw,hs⟩
     simp[Value.cells]at hlv⊢;omega
    ·rename_i zs
     simp only[zb]at ry
     obtain⟨vs,rfl,h1',hL⟩:=ry
     obtain⟨h1,h2⟩:=h
     have hlv:=hL.len
     obtain⟨w',hw,hs⟩:=hS.jD (P:=P) (o:=o) (ys:=zs) (vs:=vs.toList) hk hl h2 hlv (fun j x hj=>RC.get ⟨hL,h1'⟩ hj)
     refine⟨w',g,go w' ?_ hw,hs⟩
     simp[Value.cells]at hlv⊢;omega
    ·exact h.elim
   |false=>
    simp only[hA]at h⊢
    have one:∀(S':St) (g':Gh) (cs':List AV) (y':AV),SR E S' g' a w→g'.K b=.root t→zn S'.rs t=some cs'→D.size=1→o+1≤cs'.length→v.oneCell'=true→zb g' w y' v→
      ∃w' g',(Instr.storeAt T (.pointer (some ⟨b,o,none⟩)) v).run P w=.ok () w'∧SR E (QS S' t (zW cs' o [y'])) g' a w':=by
     intro S' g' cs' y' k1 k2 k3 k4 k5 k6 k7
     have hc:=wX k6
     obtain⟨w',hw,hs⟩:=k1.jD (P:=P) (o:=o) (ys:=[y']) (vs:=[v]) k2 k3 (by simpa using k5) rfl (fun j x hj=>by
      cases j with
      |zero=>simp at hj;subst hj;exact⟨v,rfl,k6,k7⟩
      |succ j=>simp at hj)
     exact⟨w',g',go w' (by rw[hc,k4];rfl) (by rw[hc];exact hw),hs⟩
    simp only[Bool.false_eq_true,if_false]at h⊢
    split at h
    ·rename_i u z es
     obtain⟨g',_,hkr,k1,k2⟩:=hS.zeV ry (t++[o])
     cases hl':zn (S.fil ftt (Ze u (t++[o]))).rs t with
     |none=>simp only[hl']at h
     |some cs'=>
      simp only[hl']at h⊢
      have k3:g'.K b=.root t:=hkr b t hk
      refine one _ _ _ _ k1 k3 hl' h.1 h.2 ?_ k2
      simp only[zb]at ry
      exact zl.one rfl ry.1
    ·rename_i hno
     split at h
     ·rename_i hn
      simp only[hn,if_true]
      have hv1:v.oneCell'=true:=by
       unfold ZW at hn
       split at hn
       ·simp only[zb,zl]at ry;subst ry;rfl
       ·cases hn
      cases hz:yw P T with
      |none=>simp only[hz]at h⊢;exact one _ _ _ _ hS hk hl h.1 h.2 hv1 ry
      |some z=>simp only[hz]at h⊢;exact one _ _ _ _ hS hk hl h.1 h.2 hv1 (V2 hn ry _ _)
     ·rename_i hn
      simp only[hn]
      exact one _ _ _ _ hS hk hl h.2.1 h.2.2 (zcE h.1 ry) ry
 ·exact h.elim
theorem KI {α:Type} {xs ys:List α} {j:Nat} {v:α}(h:(xs++ys)[j]?=some v):xs[j]?=some v∨(xs.length≤j∧ys[j-xs.length]?=some v):=by
 rw[List.getElem?_append]at h
 split at h
 ·exact .inl h
 ·exact .inr ⟨by omega,h⟩
theorem qJ.Uy {fr:Nat→Nat} {w:World} {z b:Nat}:∀{es:List PV} {o:Nat},qJ fr w z b es o→
  ∃vs:List Value,vs.length=es.length*z∧(∀(j:Nat) (v:Value),vs[j]?=some v→v.oneCell'=true∧w.cell? ⟨b,o+j,none⟩=some v)∧
   (es.all PV.fits=true→zw fr w (es.flatMap PV.cells) vs)∧
   ∀(fr':Nat→Nat) (w':World) (b' o':Nat),Ext fr w fr' w'→(∀(j:Nat) (v:Value),vs[j]?=some v→w'.cell? ⟨b',o'+j,none⟩=some v)→qJ fr' w' z b' es o'
 | [],o,_=>⟨[],by simp,by simp,by simp[zw],fun _ _ _ _ _ _=>by simp[qJ]⟩
 |e::es,o,r=>by
  simp only[qJ]at r
  obtain⟨⟨v,h1,h2,h3⟩,h4⟩:=r
  obtain⟨vs,k1,k2,kf,k3⟩:=qJ.Uy h4
  refine⟨v.cells.toList++vs,?_,fun j u hu=>?_,fun hf=>?_,fun fr' w' b' o' hx hc=>?_⟩
  ·simp[k1,h2,Nat.add_mul];omega
  ·rcases KI hu with h|⟨hj,h⟩
   ·exact h3 j u (by simpa using h)
   ·have:=k2 _ u h
    simp only[Array.length_toList,h2]at hj this
    have e1:o+z+(j-z)=o+j:=by omega
    rwa[e1]at this
  ·simp only[List.all_cons,Bool.and_eq_true]at hf
   simp only[List.flatMap_cons]
   exact(zl.cells hf.1 h1).append (kf hf.2)
  ·simp only[qJ]
   refine⟨⟨v,h1.ext hx,h2,fun j c hj=>⟨(h3 j c hj).1,?_⟩⟩,k3 fr' w' b' (o'+z) hx (fun j u hu=>?_)⟩
   ·refine hc j c ?_
    have hjl:=(Array.getElem?_eq_some_iff.1 hj).1
    rw[List.getElem?_append_left (by simpa using hjl)]
    simpa using hj
   ·have:=hc (z+j) u (by
     rw[List.getElem?_append_right (by simp[h2])]
     simpa[h2]using hu)
    rwa[←Nat.add_assoc]at this
theorem zl.zgn {fr:Nat→Nat} {w:World} {z:Nat} {es:List PV} {v:Value}(r:zl fr w (.sl z es) v)(P:Program):
  ∃vs:List Value,vs.length=es.length*z∧(∀u∈vs,u.oneCell'=true)∧(∀w',(∀b o,w'.cell? ⟨b,o,none⟩=w.cell? ⟨b,o,none⟩)→(Builtin.firstCells z es.length v).run P w'=.ok vs.toArray w')∧(es.all PV.fits=true→zw fr w (es.flatMap PV.cells) vs)∧
   (∀w' k,k≤es.length→(∀b o,w'.cell? ⟨b,o,none⟩=w.cell? ⟨b,o,none⟩)→(Builtin.firstCells z k v).run P w'=.ok (vs.take (k*z)).toArray w')∧
   ∀(fr':Nat→Nat) (w':World) (b' o':Nat),Ext fr w fr' w'→(∀(j:Nat) (v:Value),vs[j]?=some v→w'.cell? ⟨b',o'+j,none⟩=some v)→qJ fr' w' z b' es o':=by
 simp only[zl]at r
 rcases r with ⟨rfl,a0,cap0,rfl⟩|⟨b,o,cap,rfl,_,hf,he⟩
 ·have h0:∀w',(Builtin.firstCells z 0 (.slice a0 0 cap0)).run P w'=.ok #[] w':=fun w'=>by
   cases a0<;>simp[Builtin.firstCells,loadCells,loadCellsFrom]
  exact⟨[],by simp,by simp,fun w' _=>h0 w',by simp[zw],fun w' k hk _=>by
   have:k=0:=by simpa using hk
   subst this
   simpa using h0 w',fun _ _ _ _ _ _=>by simp[qJ]⟩
 ·obtain⟨vs,k1,k2,kf,k3⟩:=he.Uy
  refine⟨vs,k1,fun u hu=>?_,fun w' hw=>?_,kf,fun w' k hk hw=>?_,k3⟩
  ·obtain⟨j,hj⟩:=List.mem_iff_getElem?.1 hu
   exact(k2 j u hj).1
  ·simp only[Builtin.firstCells]
   rw[←k1]
   refine run_loadCells_list w' ⟨b,o,none⟩ vs (fun j u hj=>?_)
   rw[qw,hw b (o+j)]
   exact(k2 j u hj).2
  ·simp only[Builtin.firstCells]
   have hkl:k*z≤vs.length:=by rw[k1];exact Nat.mul_le_mul_right _ hk
   have:=run_loadCells_list (P:=P) w' ⟨b,o,none⟩ (vs.take (k*z)) (fun j u hj=>by
    have hj':vs[j]?=some u:=by
     rw[List.getElem?_take]at hj
     split at hj
     ·exact hj
     ·cases hj
    rw[qw,hw b (o+j)]
    exact(k2 j u hj').2)
   rwa[show(vs.take (k*z)).length=k*z from by simp;omega]at this
def zk3:AV→Option (Nat×List PV)
 |.p (.sl z ys)=>some (z,ys)
 |.os _ z ys=>some (z,ys)
 |.p (.str s)=>some (1,s.map fun c=>.int .u8 c.toNat)
 |_=>none
def Src(P:Program)(fr:Nat→Nat)(w:World)(z:Nat)(ys:List PV)(v:Value):Prop:=
 (∀w',(Builtin.lenOf v).run P w'=.ok ys.length w')∧
  ∃vs:List Value,vs.length=ys.length*z∧(∀u∈vs,u.oneCell'=true)∧(∀w',(∀b o,w'.cell? ⟨b,o,none⟩=w.cell? ⟨b,o,none⟩)→(Builtin.firstCells z ys.length v).run P w'=.ok vs.toArray w')∧(ys.all PV.fits=true→zw fr w (ys.flatMap PV.cells) vs)∧
   (∀w' k,k≤ys.length→(∀b o,w'.cell? ⟨b,o,none⟩=w.cell? ⟨b,o,none⟩)→(Builtin.firstCells z k v).run P w'=.ok (vs.take (k*z)).toArray w')∧
   ∀(fr':Nat→Nat) (w':World) (b' o':Nat),Ext fr w fr' w'→(∀(j:Nat) (v:Value),vs[j]?=some v→w'.cell? ⟨b',o'+j,none⟩=some v)→qJ fr' w' z b' ys o'
theorem Src.sl {P:Program} {fr:Nat→Nat} {w:World} {z:Nat} {ys:List PV} {v:Value}(r:zl fr w (.sl z ys) v):Src P fr w z ys v:=by
 obtain⟨base,cap,e,_⟩:=kT r
 exact⟨fun w'=>by rw[e];rfl,r.zgn P⟩
theorem WU {fr:Nat→Nat} {w:World} {b:Nat}:∀{s:List UInt8} {o:Nat},(∀(j:Nat) (v:Value),(s.map fun c=>Value.int .u8 (c.toNat:Int))[j]?=some v→w.cell? ⟨b,o+j,none⟩=some v)→
  qJ fr w 1 b (s.map fun c=>.int .u8 (c.toNat:Int)) o
 | [],o,_=>by simp[qJ]
 |c::s,o,hc=>by
  simp only[List.map_cons,qJ]
  refine⟨⟨.int .u8 c.toNat,by simp only[zl],rfl,fun j u hj=>?_⟩,WU (fun j u hu=>?_)⟩
  ·cases j with
   |zero=>simp[Value.cells]at hj;subst hj;exact⟨rfl,hc 0 _ (by simp)⟩
   |succ j=>simp[Value.cells]at hj
  ·have:=hc (j+1) u (by simpa using hu)
   rwa[show o+(j+1)=o+1+j from by omega]at this
theorem ze9 {P:Program} {g:Gh} {w:World} {x:AV} {z:Nat} {ys:List PV} {v:Value}(h:zk3 x=some (z,ys))(r:zb g w x v):Src P g.fr w z ys v:=by
 unfold zk3 at h
 split at h
 ·simp only[Option.some.injEq,Prod.mk.injEq]at h;obtain⟨rfl,rfl⟩:=h
  simp only[zb]at r;exact Src.sl r
 ·simp only[Option.some.injEq,Prod.mk.injEq]at h;obtain⟨rfl,rfl⟩:=h
  simp only[zb]at r;exact Src.sl r.1
 ·rename_i s
  simp only[Option.some.injEq,Prod.mk.injEq]at h;obtain⟨rfl,rfl⟩:=h
  simp only[zb,zl]at r;subst r
  refine⟨fun w'=>by simp[Builtin.lenOf,ByteArray.size],s.map fun c=>.int .u8 c.toNat,by simp,by simp[Value.oneCell'],fun w' _=>?_,fun _=>?_,fun w' k hk _=>?_,fun fr' w' b' o' _ hc=>WU hc⟩
  ·simp only[Builtin.firstCells,Sem.run_pure]
   have:(⟨s.toArray⟩:ByteArray).extract 0 (s.map fun c=>PV.int .u8 c.toNat).length=⟨s.toArray⟩:=by
    rw[JH _ _ _ (by omega) (by simp)];simp
   rw[this];simp
  ·have hb:∀l:List UInt8,zw g.fr w ((l.map fun c=>PV.int .u8 (c.toNat:Int)).flatMap PV.cells) (l.map fun c=>Value.int .u8 (c.toNat:Int)):=by
    intro l
    induction l with
    |nil=>simp[zw]
    |cons c l ih=>
     simp only[List.map_cons,List.flatMap_cons,PV.cells,List.singleton_append,zw]
     exact⟨_,_,rfl,rfl,by simp only[zl],ih⟩
   exact hb s
  ·simp only[Builtin.firstCells,Sem.run_pure]
   have:(⟨s.toArray⟩:ByteArray).extract 0 k=⟨(s.take k).toArray⟩:=by
    rw[JH _ _ _ (by omega) (by simpa using hk)];simp
   rw[this];simp
 ·cases h
def zfD(S:St)(x:AV):Option (Prop×Nat×List PV):=
 match x with
 |.la t z o n=>
  match zn S.rs t with
  |some cs=>match KE ((cs.drop o).take n)with
   |some ys=>some ((z=1∧ys.length=n∧ys.all PV.one=true),1,ys)
   |none=>none
  |none=>none
 |x=>match zk3 x with
  |some (z,ys)=>some (True,z,ys)
  |none=>none
theorem zcT {x:PV}(h:x.one=true):x.fits=true∧x.cells=[x]:=by
 cases x<;>first|(cases h;done)|exact⟨rfl,rfl⟩|exact⟨h,rfl⟩
theorem WX [Gi] {P:Program} {E:Ent} {S:St} {g:Gh} {a:Act} {w:World}(hS:SR E S g a w) {x:AV} {c:Prop} {z:Nat} {ys:List PV} {v:Value}(e:zfD S x=some (c,z,ys))(hc:c)(r:zb g w x v):Src P g.fr w z ys v:=by
 unfold zfD at e
 split at e
 ·rename_i t z' o n
  simp only[zb]at r
  obtain⟨b,o',cap,hk,rfl,hcap,ho,_⟩:=r
  obtain⟨cs,hl,h0,arr,T,hb,hle,hcs⟩:=hS.roots b t hk
  simp only[hl]at e
  cases hx:KE ((cs.drop o).take n)with
  |none=>simp only[hx]at e;cases e
  |some ys'=>
   simp only[hx,Option.some.injEq,Prod.mk.injEq]at e
   obtain⟨rfl,rfl,rfl⟩:=e
   obtain⟨_,hn,hone⟩:=hc
   have he:=uF hx
   have hget:∀(j:Nat) (y:PV),ys'[j]?=some y→cs[o+j]?=some (.p y):=by
    intro j y hj
    have hjl:j<n:=by have:=(List.getElem?_eq_some_iff.1 hj).1;omega
    have:=congrArg (·[j]?) he
    simp only[List.getElem?_take,hjl,if_true,List.getElem?_drop,List.getElem?_map,hj,Option.map_some]at this
    exact this
   have hcell:∀(j:Nat) (y:PV),ys'[j]?=some y→∃u,arr[o+j]?=some u∧u.oneCell'=true∧zl g.fr w y u:=by
    intro j y hj
    obtain⟨u,hu,h1,hr⟩:=hcs _ _ (hget j y hj)
    simp only[zb]at hr
    exact⟨u,hu,h1,hr⟩
   -- the values
   have key:∀(l:List PV) (k:Nat),(∀(j:Nat) (y:PV),l[j]?=some y→∃u,arr[o+k+j]?=some u∧u.oneCell'=true∧zl g.fr w y u)→l.all PV.one=true→
     ∃vs:List Value,vs.length=l.length∧(∀u∈vs,u.oneCell'=true)∧(∀(j:Nat) (u:Value),vs[j]?=some u→arr[o+k+j]?=some u)∧zw g.fr w (l.flatMap PV.cells) vs∧
      ∀(fr':Nat→Nat) (w':World) (b' o':Nat),Ext g.fr w fr' w'→(∀(j:Nat) (v:Value),vs[j]?=some v→w'.cell? ⟨b',o'+j,none⟩=some v)→qJ fr' w' 1 b' l o':=by
    intro l
    induction l with
    |nil=>intro k _ _;exact⟨[],rfl,by simp,by simp,by simp[zw],fun _ _ _ _ _ _=>by simp[qJ]⟩
    |cons y l ih=>
     intro k hh hall
     simp only[List.all_cons,Bool.and_eq_true]at hall
     obtain⟨u,hu,h1,hr⟩:=hh 0 y rfl
     obtain⟨vs,v1,v2,v3,v4,v5⟩:=ih (k+1) (fun j q hj=>by
      have:=hh (j+1) q (by simpa using hj)
      rwa[show o+k+(j+1)=o+(k+1)+j from by omega]at this) hall.2
     have hyc:=(zcT hall.1).2
     refine⟨u::vs,by simp[v1],fun q hq=>?_,fun j q hj=>?_,?_,fun fr' w' b' o' hx hc=>?_⟩
     ·rcases List.mem_cons.1 hq with rfl|hq
      ·exact h1
      ·exact v2 q hq
     ·cases j with
      |zero=>simp at hj;subst hj;simpa using hu
      |succ j=>
       have:=v3 j q (by simpa using hj)
       rwa[show o+k+(j+1)=o+(k+1)+j from by omega]
     ·simp only[List.flatMap_cons,hyc,List.singleton_append,zw]
      exact⟨u,vs,rfl,h1,hr,v4⟩
     ·simp only[qJ]
      have hcu:=wX h1
      refine⟨⟨u,hr.ext hx,by rw[hcu];rfl,fun j q hj=>?_⟩,v5 fr' w' b' (o'+1) hx (fun j q hj=>?_)⟩
      ·rw[hcu]at hj
       cases j with
       |zero=>simp at hj;subst hj;exact⟨h1,hc 0 _ rfl⟩
       |succ j=>simp at hj
      ·have:=hc (j+1) q (by simpa using hj)
       rwa[show o'+(j+1)=o'+1+j from by omega]at this
   obtain⟨vs,v1,v2,v3,v4,v5⟩:=key ys' 0 (fun j y hj=>by simpa using hcell j y hj) hone
   have hfirst:∀w' k,k≤ys'.length→(∀b o,w'.cell? ⟨b,o,none⟩=w.cell? ⟨b,o,none⟩)→(Builtin.firstCells 1 k (.slice (some ⟨b,o',none⟩) n cap)).run P w'=.ok (vs.take (k*1)).toArray w':=by
    intro w' k hk hw
    simp only[Builtin.firstCells]
    rcases Nat.eq_zero_or_pos k with hz|hz
    ·subst hz;simp[loadCells,loadCellsFrom]
    ·have ho':o'=o:=ho.resolve_left (by omega)
     subst ho'
     have:=run_loadCells_list (P:=P) w' ⟨b,o',none⟩ (vs.take (k*1)) (fun j u hj=>by
      have hj':vs[j]?=some u:=by
       rw[List.getElem?_take]at hj
       split at hj
       ·exact hj
       ·cases hj
      rw[qw,hw b (o'+j),z8 hb]
      simpa using v3 j u hj')
     rwa[show(vs.take (k*1)).length=k*1 from by simp;omega]at this
   refine⟨fun w'=>by simp[Builtin.lenOf,hn],vs,by omega,v2,fun w' hw=>?_,fun _=>v4,hfirst,v5⟩
   have:=hfirst w' ys'.length (Nat.le_refl _) hw
   rwa[List.take_of_length_le (by omega)]at this
 ·split at e
  ·rename_i z' ys' h
   simp only[Option.some.injEq,Prod.mk.injEq]at e
   obtain⟨rfl,rfl,rfl⟩:=e
   exact ze9 h r
  ·cases e
def WB:TypeDesc→Bool
 |.slice _=>true
 |.string=>true
 |_=>false
theorem xR {P:Program} {w:World} {sT xT tt e:TypeId} {D X T:Ty}(hT:ty P sT=some D)(hD:D.desc=.slice e)(hX:ty P xT=some X)(hXi:WB X.desc=true)(hE:ty P e=some T)
  {zs:List PV} (hz:T.zero=some zs) {base:Option Addr} {len cap n:Nat} {x:Value} (hl:∀w,(Builtin.lenOf x).run P w=.ok n w) (hgrow:cap<len+n) (hb:0<T.bytes) (hfit:(len+n)*T.bytes≤140737488355328)
  {os ns:List Value} (ho:∀w',(∀b o,w'.cell? ⟨b,o,none⟩=w.cell? ⟨b,o,none⟩)→(Builtin.firstCells T.size len (.slice base len cap)).run P w'=.ok os.toArray w')
  (hn:∀w',(∀b o,w'.cell? ⟨b,o,none⟩=w.cell? ⟨b,o,none⟩)→(Builtin.firstCells T.size n x).run P w'=.ok ns.toArray w'):
  ∃ncap rest,len+n≤ncap∧rest.length=(ncap- (len+n))*zs.length∧
   (Builtin.append_ #[sT,xT] tt #[.slice base len cap,x]).run P w=
    .ok (.slice (some ⟨w.heap.size,0,none⟩) (len+n) ncap) (w.drew.alloc (.cells (os++ns++rest).toArray e)):=by
 have hu:=fun w=>zr (P:=P) w hT
 rw[hD]at hu
 have hux:=fun w=>zr (P:=P) w hX
 have hs:=fun w=>qz (P:=P) w hE
 obtain⟨i,hi,hib⟩:=zbU hE
 obtain⟨zv,hz1,hz2⟩:=jd hE hz
 have hzl:zv.cells.size=zs.length:=by rw[←hz2];simp
 have ho':=ho w.drew (fun _ _=>rfl)
 have hn':=hn w.drew (fun _ _=>rfl)
 have hle:len+n≤grownCap w (len+n) cap e:=by simp[grownCap,Question.cut]
 refine⟨grownCap w (len+n) cap e,(Builtin.zeroCells zv.cells (grownCap w (len+n) cap e- (len+n))).toList,hle,by simp[Builtin.zeroCells,hzl],?_⟩
 have h48:¬(281474976710656<Builtin.nextslicecap (len+n) cap*i.bytes):=by
  rw[hib]
  have:=growslice_fits hgrow hfit
  omega
 have hib0:i.bytes≠0:=by omega
 have hg:¬(len+n≤cap):=by omega
 have hq:(∃k,X.desc=.slice k)∨X.desc=.string:=by
  cases hq:X.desc<;>simp[hq,WB]at hXi<;>simp
 rcases hq with ⟨k,hq⟩|hq
 ·rw[hq]at hux
  simp[Builtin.append_,hu,hux,hs,hl,hi,hz1,hg,h48,hib0,Question.forced,ho',hn',newRow,grownCap]
  congr 2
  apply Array.ext'
  simp
 ·rw[hq]at hux
  simp[Builtin.append_,hu,hux,hs,hl,hi,hz1,hg,h48,hib0,Question.forced,ho',hn',newRow,grownCap]
  congr 2
  apply Array.ext'
  simp
theorem ko {P:Program} {w w':World} {sT xT tt e:TypeId} {D X T:Ty}(hT:ty P sT=some D)(hD:D.desc=.slice e)(hX:ty P xT=some X)(hXi:WB X.desc=true)(hE:ty P e=some T)
  {base:Option Addr} {len cap n:Nat} {x:Value} (hl:∀w,(Builtin.lenOf x).run P w=.ok n w) (hroom:len+n≤cap)
  {ns:List Value} (hn:(Builtin.firstCells T.size n x).run P w=.ok ns.toArray w)
  (hst:match base with|some a=>(storeCells (a.add (len*T.size)) ns).run P w=.ok () w'|none=>w'=w):
  (Builtin.append_ #[sT,xT] tt #[.slice base len cap,x]).run P w=.ok (.slice base (len+n) cap) w':=by
 have hu:=fun w=>zr (P:=P) w hT
 rw[hD]at hu
 have hux:=fun w=>zr (P:=P) w hX
 have hs:=fun w=>qz (P:=P) w hE
 have hq:(∃k,X.desc=.slice k)∨X.desc=.string:=by
  cases hq:X.desc<;>simp[hq,WB]at hXi<;>simp
 rcases hq with ⟨k,hq⟩|hq<;>rw[hq]at hux<;>cases base with
 |none=>simp only[]at hst;subst hst;simp[Builtin.append_,hu,hux,hs,hl,hroom,hn]
 |some a=>simp only[]at hst;simp[Builtin.append_,hu,hux,hs,hl,hroom,hn,hst]
end
end Go.AM
