/- A part of this seat's proofs, by an abstract machine. Conditions: each law's. -/
import Derived.Test.YtfjdbbpimklecaaGreatDoorV05
namespace Go.AM
section
def zgm(x:AV):Option (Tok×List PV×Option Nat):=
 match x with
 |.os t z es=>some (t,es,some z)
 |x=>if Zv x then some ([],[],none)else none
def uu(P:Program)(S:St)(d:Nat)(sT xT:TypeId)(x y:AV):Prop×St:=
 match ty P sT,ty P xT,zgm x,zbc S y with
 |some ⟨.slice e,_,_,_⟩,some X,some (t,es,z),some (cy,zy,ys)=>
  match ty P e with
  |some ⟨_,size,bytes,some zs⟩=>
   ((cy∧vF X.desc=true∧(z=none∨z=some size)∧zy=size∧zs.length=size∧0<bytes∧d<S.n)∧(es.length+ys.length)*bytes≤140737488355328,
    (S.fil ftt (qW t [d])).set d (.os [d] size (es++ys)))
  |_=>(False,S)
 |_,_,_,_=>(False,S)
theorem zdg {g:Gh} {w:World} {x:AV} {t:Tok} {es:List PV} {z:Option Nat} {v:Value} {size:Nat}(h:zgm x=some (t,es,z))(hz:z=none∨z=some size)(r:za g w x v):za g w (.os t size es) v:=by
 unfold zgm at h
 split at h
 ·simp only[Option.some.injEq,Prod.mk.injEq]at h
  obtain⟨rfl,rfl,rfl⟩:=h
  simp at hz;subst hz;exact r
 ·split at h
  ·rename_i hn
   simp only[Option.some.injEq,Prod.mk.injEq]at h
   obtain⟨rfl,rfl,rfl⟩:=h
   exact uD hn r _ _
  ·cases h
theorem SR.J1 [Gi] {E:Ent} {S:St} {g:Gh} {a:Act} {w:World}(h:SR E S g a w) {b o:Nat}(ho:o<g.fr b):b<w.heap.size:=by
 rcases Nat.lt_or_ge b w.heap.size with h'|h'
 ·exact h'
 ·have:=h.frb b h';omega
theorem J3 [Gi] {P:Program} {E:Ent} {S:St} {g:Gh} {a:Act} {w:World}(hS:SR E S g a w) {d:Nat} {sT xT tt:TypeId} {x y:AV} {u v:Value}(h:(uu P S d sT xT x y).1)
  (rx:za g w x u) (ry:za g w y v):
  ∃r w' g',(Builtin.append_ #[sT,xT] tt #[u,v]).run P w=.ok r w'∧SR E (uu P S d sT xT x y).2 g' (a.put (some d) r) w':=by
 unfold uu at h⊢
 split at h
 ·rename_i e sz by_ ze X t es z cy zy ys hT hX hx hy
  split at h
  ·rename_i dd size bytes zs hE
   obtain⟨⟨hcy,hXi,hz,hzy,hzl,hb,hd⟩,hfit⟩:=h
   subst hzy
   have hos:=zdg hx hz rx
   obtain⟨hlen,ns,n1,n2,n3,_,_,n4⟩:=vz (P:=P) hS hy hcy ry
   have hos':=hos
   simp only[za]at hos'
   obtain⟨rs,hown⟩:=hos'
   obtain⟨base,cap,rfl,hcap⟩:=jm rs
   obtain⟨os,o1,o2,o3,_,_,o4⟩:=rs.zbN P
   rcases Nat.lt_or_ge cap (es.length+ys.length)with hg|hroom
   ·-- a new row
    obtain⟨ncap,rest,c1,c2,c3⟩:=kY (P:=P) (w:=w) (tt:=tt) (os:=os) (ns:=ns) hT rfl hX hXi hE rfl hlen hg hb hfit (fun w' hw=>o3 w' hw) (fun w' hw=>n3 w' hw)
    refine⟨.slice (some ⟨w.heap.size,0,none⟩) (es.length+ys.length) ncap,w.drew.alloc (.cells (os++ns++rest).toArray e),?_⟩
    suffices H:∃g',SR E ((S.fil ftt (qW t [d])).set d (.os [d] zy (es++ys))) g' (a.put (some d) (.slice (some ⟨w.heap.size,0,none⟩) (es.length+ys.length) ncap)) (w.drew.alloc (.cells (os++ns++rest).toArray e)) by
     obtain⟨g',H⟩:=H;exact⟨g',c3,H⟩
    have k1:=((hS.filter ftt (qW t [d])).drew).alloc (.cells (os++ns++rest).toArray e)
    have hp:(g.fil ftt (qW t [d])).K w.heap.size=.prot:=by
     rcases Classical.em (g.K w.heap.size=.prot)with e'|e'
     ·show(g.K w.heap.size).fil _ _=_;rw[e'];rfl
     ·have:=(hS.own _ e').1;omega
    have hfr0:g.fr w.heap.size=0:=hS.frb _ (Nat.le_refl _)
    have k2:=k1.zb0 (b:=w.heap.size) (m:=(es.length+ys.length)*zy) hp (.inl hS.mono) (by simp[World.alloc]) (by show g.fr w.heap.size≤_;omega)
    have k3:=k2.yk (b:=w.heap.size) (t:=[d]) hp (.inl hS.mono) (by simp[World.alloc]) (fun c hc=>by
     have:=(Gh.qG.1 hc).2;simp[qW]at this)
    refine⟨_,k3.put ?_ hd⟩
    have hheap:(w.drew.alloc (.cells (os++ns++rest).toArray e)).heap[w.heap.size]?=some (.cells (os++ns++rest).toArray e (0,0)):=by
     have:=heap_alloc w.drew (.cells (os++ns++rest).toArray e) w.heap.size
     rw[this];exact if_pos rfl
    have hx2:Ext g.fr w (Zu g.fr w.heap.size ((es.length+ys.length)*zy)) (w.drew.alloc (.cells (os++ns++rest).toArray e)):=fun b o ho=>by
     have hbl:=hS.J1 ho
     refine⟨by rw[qm _ _ _ (by omega)];exact ho,zP ?_⟩
     have:=heap_alloc w.drew (.cells (os++ns++rest).toArray e) b
     rw[this];exact if_neg (by show b≠w.heap.size;omega)
    have hcell:∀j:Nat,(w.drew.alloc (.cells (os++ns++rest).toArray e)).cell? ⟨w.heap.size,j,none⟩=(os++ns++rest)[j]?:=fun j=>by
     rw[zT hheap];simp
    simp only[za]
    refine⟨?_,.inr ⟨w.heap.size,0,_,ncap,rfl,zX _ _ _,?_,(os++ns++rest).toArray,e,hheap,?_⟩⟩
    ·simp only[zi]
     right
     refine⟨w.heap.size,0,ncap,by rw[List.length_append],by rw[List.length_append];exact c1,?_,?_⟩
     ·show _≤Zu g.fr w.heap.size _ w.heap.size
      rw[zX,List.length_append];omega
     ·refine qo.append (o4 _ _ _ _ hx2 (fun j q hj=>?_)) (n4 _ _ _ _ hx2 (fun j q hj=>?_))
      ·show(w.drew.alloc (.cells (os++ns++rest).toArray e)).cell? ⟨w.heap.size,0+j,none⟩=some q
       rw[Nat.zero_add,hcell,List.append_assoc,List.getElem?_append_left (by exact(List.getElem?_eq_some_iff.1 hj).1)];exact hj
      ·have hjl:=(List.getElem?_eq_some_iff.1 hj).1
       show(w.drew.alloc (.cells (os++ns++rest).toArray e)).cell? ⟨w.heap.size,0+es.length*zy+j,none⟩=some q
       rw[Nat.zero_add,hcell,←o1,List.getElem?_append_left (by simp;omega),List.getElem?_append_right (by omega)]
       rw[Nat.add_sub_cancel_left];exact hj
    ·show Zu g.fr w.heap.size _ w.heap.size=_
     rw[zX];omega
    ·simp only[Nat.zero_add,List.size_toArray,List.length_append,o1,n1,c2,hzl]
     have:ncap=es.length+ys.length+(ncap- (es.length+ys.length)):=by omega
     calc ncap*zy=(es.length+ys.length+(ncap- (es.length+ys.length)))*zy:=by rw[←this]
      _=es.length*zy+ys.length*zy+(ncap- (es.length+ys.length))*zy:=by rw[Nat.add_mul,Nat.add_mul]
      _≤_:=Nat.le_refl _
   ·-- there is room
    rcases List.eq_nil_or_concat ys with hy0|⟨y0,yl,hy0⟩
    ·subst hy0
     have hns:ns=[]:=List.length_eq_zero_iff.1 (by simpa using n1)
     subst hns
     have hrun:=QV (P:=P) (w:=w) (w':=w) (tt:=tt) (base:=base) (ns:=[]) hT rfl hX hXi hE hlen hroom (by simpa using n3 w (fun _ _=>rfl)) (by cases base<;>simp[storeCells])
     simp only[List.append_nil]
     obtain⟨g',_,_,k1,k2⟩:=hS.zbn hos [d]
     exact⟨_,w,g',hrun,k1.put k2 hd⟩
    ·have hylen:0<ys.length:=by rw[hy0];simp
     rcases hown with ⟨q,l,e'⟩|⟨b,o,len,cap',e',hk,hf,arr,T,hb1,hb2⟩
     ·injection e' with _ e1 e2;omega
     ·injection e' with e1 e2 e3
      subst e1;subst e2;subst e3
      have hmul:es.length*zy+ys.length*zy≤cap*zy:=by rw[←Nat.add_mul];exact Nat.mul_le_mul_right _ hroom
      have hfits:o+es.length*zy+0+ns.length≤arr.size:=by omega
      have hst:=run_storeCells_at P b (o+es.length*zy) T ns 0 arr w hb1 hfits n2
      simp only[Nat.add_zero]at hst
      have hsp:arr.toList.take (o+es.length*zy)++ns++arr.toList.drop (o+es.length*zy+ns.length)=zL arr.toList (o+es.length*zy) ns:=rfl
      rw[hsp]at hst
      have hrun:=QV (P:=P) (w:=w) (tt:=tt) (base:=some ⟨b,o,none⟩) (ns:=ns) hT rfl hX hXi hE hlen hroom (n3 w (fun _ _=>rfl)) (by simp only[];rw[addr_add];exact hst)
      have hget:∀j:Nat,((zL arr.toList (o+es.length*zy) ns).toArray)[j]?=if o+es.length*zy≤j∧j<o+es.length*zy+ns.length then ns[j- (o+es.length*zy)]? else arr[j]?:=fun j=>by
       have e1:((zL arr.toList (o+es.length*zy) ns).toArray)[j]?=(zL arr.toList (o+es.length*zy) ns)[j]?:=by simp
       rw[e1,yV _ _ _ (by simp;omega)];simp
      have hown:=hS.own b (by rw[hk];simp)
      have hp:(g.fil ftt (qW t [d])).K b=.prot:=by
       show(g.K b).fil _ _=_
       rw[hk];simp[Kd.fil,qW]
      have k1:=hS.filter ftt (qW t [d])
      have k2:=k1.modify (arr':=(zL arr.toList (o+es.length*zy) ns).toArray) hb1 hp hown.2 (fun j hj=>by
       have hj':j<g.fr b:=hj
       rw[hget,if_neg (by omega)])
      have k3:=k2.zb0 (b:=b) (m:=o+(es.length+ys.length)*zy) hp hown.2 (by rw[size_setRow];exact hown.1) (by show g.fr b≤_;rw[hf,Nat.add_mul];omega)
      have k4:=k3.yk (b:=b) (t:=[d]) hp hown.2 (by rw[size_setRow];exact hown.1) (fun c hc=>by
       have:=(Gh.qG.1 hc).2;simp[qW]at this)
      refine⟨_,_,_,hrun,k4.put ?_ hd⟩
      have hheap:(w.setRow b (zL arr.toList (o+es.length*zy) ns).toArray).heap[b]?=some (.cells (zL arr.toList (o+es.length*zy) ns).toArray T (0,0)):=setRow_heap w b arr _ T (0,0) hb1
      have hcell:∀j:Nat,(w.setRow b (zL arr.toList (o+es.length*zy) ns).toArray).cell? ⟨b,j,none⟩=if o+es.length*zy≤j∧j<o+es.length*zy+ns.length then ns[j- (o+es.length*zy)]? else arr[j]?:=fun j=>by
       rw[zT hheap,hget]
      have hx2:Ext g.fr w (Zu g.fr b (o+(es.length+ys.length)*zy)) (w.setRow b (zL arr.toList (o+es.length*zy) ns).toArray):=fun c o' ho=>by
       by_cases e:c=b
       ·subst e
        refine⟨by rw[zX,Nat.add_mul];omega,?_,by rw[kg hheap,kg hb1]⟩
        rw[hcell,if_neg (by omega),zT hb1]
       ·exact⟨by rw[qm _ _ _ e];exact ho,zP (zV _ _ _ _ e)⟩
      simp only[za]
      refine⟨?_,.inr ⟨b,o,_,cap,rfl,zX _ _ _,?_,_,T,hheap,?_⟩⟩
      ·simp only[zi]
       right
       refine⟨b,o,cap,by rw[List.length_append],by rw[List.length_append];exact hroom,?_,?_⟩
       ·show _≤Zu g.fr b _ b
        rw[zX,List.length_append];omega
       ·have hsame:∀(j:Nat) (q:Value),os[j]?=some q→(w.setRow b (zL arr.toList (o+es.length*zy) ns).toArray).cell? ⟨b,o+j,none⟩=some q:=fun j q hj=>by
         have hjl:=(List.getElem?_eq_some_iff.1 hj).1
         have hh:=o3 w (fun _ _=>rfl)
         have hr2:=rs
         simp only[zi]at hr2
         rcases hr2 with ⟨he0,_⟩|⟨b',o',cap'',e2,_,hf2,he2⟩
         ·subst he0
          simp at o1
          subst o1
          simp at hjl
         ·injection e2 with e2 _ _
          injection e2 with e2
          injection e2 with e2 e3
          subst e2;subst e3
          obtain⟨vs,v1,v2,_,_⟩:=he2.zid
          have hl2:=run_loadCells_list (P:=P) w ⟨b,o,none⟩ vs (fun j u hj=>by rw[addr_add];exact(v2 j u hj).2)
          simp only[Builtin.firstCells]at hh
          rw[←v1,hl2]at hh
          injection hh with hh
          have hvo:vs=os:=by simpa using hh
          subst hvo
          have:=(v2 j q hj).2
          rw[hcell,if_neg (by omega)]
          rwa[zT hb1]at this
        refine qo.append (o4 _ _ _ _ hx2 hsame) (n4 _ _ _ _ hx2 (fun j q hj=>?_))
        have hjl:=(List.getElem?_eq_some_iff.1 hj).1
        rw[hcell,if_pos (by omega)]
        rw[Nat.add_sub_cancel_left];exact hj
      ·show Zu g.fr b _ b=_
       rw[zX]
      ·simp[zL];omega
  ·exact h.elim
 ·exact h.elim
theorem zbJ {z:Nat}:∀{l:List (Nat×PV)} {k:Nat} {cells:List PV},l.map (·.1)=List.range' k l.length→cells.length=(k+l.length)*z→(∀x∈l,x.2.cells.length=z∧x.2.fits=true)→
  (kT (fun i=>some (i*z,z)) cells l).1∧(kT (fun i=>some (i*z,z)) cells l).2=cells.take (k*z)++l.flatMap (fun x=>x.2.cells)
 | [],k,cells,_,hc,_=>by
  simp only[kT,List.flatMap_nil,List.append_nil,true_and]
  rw[List.take_of_length_le];simp at hc;omega
 |(i,x)::l,k,cells,hm,hc,hz=>by
  simp only[List.map_cons,List.length_cons,List.range'_succ,List.cons.injEq]at hm
  obtain⟨rfl,hm⟩:=hm
  obtain⟨h1,h2⟩:=hz (i,x) (by simp)
  simp only[]at h1 h2
  have hlen:i*z+z≤cells.length:=by
   rw[hc,List.length_cons,Nat.add_mul,Nat.add_mul];omega
  have ih:=zbJ (l:=l) (k:=i+1) (cells:=cells.take (i*z)++x.cells++cells.drop (i*z+z)) hm (by
   simp only[List.length_append,List.length_take,List.length_drop,h1]
   rw[hc,List.length_cons]at hlen⊢
   simp only[Nat.add_mul]at hlen⊢
   omega) (fun y hy=>hz y (by simp[hy]))
  unfold kT
  simp only[]
  refine⟨⟨⟨h1,hlen,h2⟩,ih.1⟩,?_⟩
  rw[ih.2]
  simp only[List.flatMap_cons]
  rw[←List.append_assoc]
  congr 1
  have e1:(i+1)*z=i*z+z:=by rw[Nat.add_mul];omega
  rw[e1,List.take_append_of_le_length (by simp[h1];omega),List.take_of_length_le (by simp[h1];omega)]
def sizedB(z:Nat)(l:List (Nat×PV)):Bool:=l.all fun x=>decide (x.2.cells.length=z)&&x.2.fits
def Q8(P:Program)(S:St)(d:Nat)(T:TypeId)(n:Nat)(parts:List (Nat×Operand)):Prop×St:=
 match ty P T,Zg S parts with
 |some ⟨.slice e,_,_,_⟩,(c,some l)=>
  match ty P e with
  |some ⟨_,z,_,some zs⟩=>
   ((c∧l.map (·.1)=List.range' 0 n∧sizedB z l=true∧zs.length=z∧zs.all PV.one=true∧n*z≤2^24)∧d<S.n,S.set d (if l.isEmpty&&S.rm.contains d then .ow [d] z []else .os [d] z (l.map (·.2))))
  |_=>(False,S)
 |_,_=>(False,S)
def bsR(P:Program)(S:St)(T:TypeId)(n:Nat)(parts:List (Nat×Operand)):Option (Prop×Nat×List PV):=
 match ty P T,Zg S parts with
 |some ⟨.slice e,_,_,_⟩,(c,some l)=>
  match ty P e with
  |some ⟨_,z,_,some zs⟩=>some ((c∧l.map (·.1)=List.range' 0 n∧sizedB z l=true∧zs.length=z∧zs.all PV.one=true∧n*z≤2^24),z,l.map (·.2))
  |_=>none
 |_,_=>none
theorem KS [Gi] {P:Program} {E:Ent} {S:St} {g:Gh} {a:Act} {w:World}(hS:SR E S g a w) {T:TypeId} {n:Nat} {parts:Array (Nat×Operand)} {c:Prop} {z0:Nat} {es:List PV}(e0:bsR P S T n parts.toList=some (c,z0,es))(hc:c)(t:Tok):
  ∃r w' g',(Instr.buildSlice T n (parts.map fun x=>(x.1,a.eval x.2))).run P w=.ok r w'∧SR E S g' a w'∧za g' w' (.os t z0 es) r∧g'.K=g.K∧∃b,r=.slice b n n:=by
 unfold bsR at e0
 split at e0
 ·rename_i e sz by_ ze c l hT hp
  split at e0
  ·rename_i dd z bytes zs hE
   simp only[Option.some.injEq,Prod.mk.injEq]at e0
   obtain⟨rfl,rfl,rfl⟩:=e0
   obtain⟨hc,hidx,hsz,hzl,hall,hn⟩:=hc
   have hu:=zo w hT
   simp only[]at hu
   have hs:=qc w hE
   simp only[]at hs
   obtain⟨zv,hz1,hz2⟩:=QG hE rfl
   have hzl':zv.cells.size=z:=by rw[←hzl,←hz2];simp
   have hpa:(Zg S parts.toList).1:=by rw[hp];exact hc
   have hpb:(Zg S parts.toList).2=some l:=by rw[hp]
   obtain⟨h1,h2⟩:=jB hS hpa hpb
   have hlen:l.length=n:=by have:=congrArg List.length hidx;simpa using this
   have hsz':∀x∈l,x.2.cells.length=z∧x.2.fits=true:=by
    intro x hx
    have:=List.all_eq_true.1 hsz x hx
    simpa using this
   -- the zero cells
   let arr0:Array Value:=(Array.range (n*z)).map fun i=>(if n*z=0 then #[]else zv.cells)[i%(if n*z=0 then #[]else zv.cells).size]!
   have hr0:zr g.fr w (arr0.toList.map jF) arr0.toList:=by
    refine zr.of_map rfl (List.all_eq_true.2 fun x hx=>?_)
    obtain⟨v,hv,rfl⟩:=List.mem_map.1 hx
    simp only[arr0,Array.toList_map,Array.toList_range,List.mem_map,List.mem_range]at hv
    obtain⟨i,hi,rfl⟩:=hv
    have hnz:n*z≠0:=by omega
    simp only[hnz,if_false]
    have hzpos:0<z:=Nat.pos_of_ne_zero (fun e=>hnz (by rw[e];simp))
    have hil:i%zv.cells.size<zv.cells.size:=Nat.mod_lt _ (by omega)
    have hmem:jF (zv.cells[i%zv.cells.size]!)∈zs:=by
     rw[←hz2]
     refine List.mem_map.2 ⟨_,?_,rfl⟩
     rw[getElem!_pos zv.cells _ hil]
     simp
    exact List.all_eq_true.1 hall _ hmem
   obtain⟨f1,f2⟩:=zbJ (z:=z) (l:=l) (k:=0) (cells:=arr0.toList.map jF) (by rw[hlen];exact hidx) (by simp[arr0,hlen]) hsz'
   obtain⟨arr',hfill,hR⟩:=yy f1 hr0 h1 h2
   rw[f2]at hR
   simp only[Nat.zero_mul,List.take_zero,List.nil_append]at hR
   have hrun:(Instr.buildSlice T n (parts.map fun x=>(x.1,a.eval x.2))).run P w=.ok (.slice (some ⟨w.heap.size,0,none⟩) n n) (w.alloc (.cells arr' e)):=by
    unfold Instr.buildSlice
    simp only[Sem.run_bind,hu,Result.andThen_ok,hs]
    rw[if_neg (by omega)]
    have hfill':Instr.fill (fun i=>some (i*z,z)) ((Array.range (n*z)).map fun i=>(if n*z=0 then #[]else zv.cells)[i%(if n*z=0 then #[]else zv.cells).size]!)
      (parts.map fun x=>(x.1,a.eval x.2)).toList=some arr':=by rw[Array.toList_map];exact hfill
    by_cases hnz:n*z=0
    ·simp only[hnz,if_true]at hfill'
     simp only[hnz,if_true,Sem.run_bind,Sem.run_pure,Result.andThen_ok,hfill',newRow,run_newObj]
     rfl
    ·simp only[hnz,if_false]at hfill'
     simp only[hnz,if_false,Sem.run_bind,Sem.run_pure,Result.andThen_ok,hz1,hfill',newRow,run_newObj]
     rfl
   refine⟨.slice (some ⟨w.heap.size,0,none⟩) n n,w.alloc (.cells arr' e),?_⟩
   suffices H:∃g',SR E S g' a (w.alloc (.cells arr' e))∧za g' (w.alloc (.cells arr' e)) (.os t z (l.map (·.2))) (.slice (some ⟨w.heap.size,0,none⟩) n n)∧g'.K=g.K by
    obtain⟨g',H⟩:=H;exact⟨g',hrun,H.1,H.2.1,H.2.2,_,rfl⟩
   have hp:g.K w.heap.size=.prot:=by
    rcases Classical.em (g.K w.heap.size=.prot)with e'|e'
    ·exact e'
    ·have:=(hS.own _ e').1;omega
   have hfr0:g.fr w.heap.size=0:=hS.frb _ (Nat.le_refl _)
   have k2:=(hS.alloc (.cells arr' e)).zb0 (b:=w.heap.size) (m:=n*z) hp (.inl hS.mono) (by simp) (by omega)
   refine⟨_,k2,?_,rfl⟩
   have hheap:(w.alloc (.cells arr' e)).heap[w.heap.size]?=some (.cells arr' e (0,0)):=by rw[heap_alloc,if_pos rfl]
   have hx2:Ext g.fr w (Zu g.fr w.heap.size (n*z)) (w.alloc (.cells arr' e)):=fun b o ho=>by
    have hbl:=hS.J1 ho
    exact⟨by rw[qm _ _ _ (by omega)];exact ho,zP (by rw[heap_alloc,if_neg (by omega)])⟩
   simp only[za]
   refine⟨?_,.inl ⟨_,_,rfl⟩⟩
   simp only[zi]
   right
   refine⟨w.heap.size,0,n,by simp[hlen],by simp[hlen],?_,?_⟩
   ·show _≤Zu g.fr w.heap.size _ w.heap.size
    rw[zX];simp[hlen]
   ·have hflat:l.flatMap (fun x=>x.2.cells)=(l.map (·.2)).flatMap PV.cells:=by rw[List.flatMap_map]
    rw[hflat]at hR
    have hext:∀cs vs,zr g.fr w cs vs→zr (Zu g.fr w.heap.size (n*z)) (w.alloc (.cells arr' e)) cs vs:=fun cs vs r=>r.ext hx2
    refine jL (hext _ _ hR) (fun e' he'=>?_) (fun j v hj=>?_)
    ·obtain⟨x,hx,rfl⟩:=List.mem_map.1 he'
     exact hsz' x hx
    ·rw[Nat.zero_add,zT hheap];simpa using hj
  ·cases e0
 ·cases e0
theorem uR [Gi] {P:Program} {E:Ent} {S:St} {g:Gh} {a:Act} {w:World}(hS:SR E S g a w) {d:Nat} {T:TypeId} {n:Nat} {parts:Array (Nat×Operand)}(h:(Q8 P S d T n parts.toList).1):
  ∃r w' g',(Instr.buildSlice T n (parts.map fun x=>(x.1,a.eval x.2))).run P w=.ok r w'∧SR E (Q8 P S d T n parts.toList).2 g' (a.put (some d) r) w':=by
 unfold Q8 at h⊢
 split at h
 ·rename_i e sz by_ ze c l hT hp
  split at h
  ·rename_i dd z bytes zs hE
   obtain⟨h1,hd⟩:=h
   obtain⟨r,w',g',k1,k2,k3,_,ba,k4⟩:=KS (P:=P) hS (T:=T) (n:=n) (parts:=parts) (by unfold bsR;rw[hT,hp];simp only[];rw[hE]) h1 [d]
   refine⟨r,w',g',k1,k2.put ?_ hd⟩
   split
   ·rename_i hb
    simp only[Bool.and_eq_true,List.isEmpty_iff]at hb
    have hn:n=0:=by
     have:=congrArg List.length h1.2.1
     rw[hb.1]at this
     simpa using this.symm
    subst hn
    simp only[za]
    exact⟨trivial,ba,k4⟩
   ·exact k3
  ·exact h.elim
 ·exact h.elim
def kB(n:Nat)(zs:List PV):List PV:=(List.replicate n zs).flatten
theorem xY(z:Nat)(l:List Value)(hl:l.length=z):∀n:Nat,(List.range (n*z)).map (fun i=>l.toArray[i%z]!)=(List.replicate n l).flatten
 |0=>by simp
 |n+1=>by
  have ih:=xY z l hl n
  have e1:(n+1)*z=n*z+z:=by rw[Nat.add_mul];omega
  rw[e1,List.range_add,List.map_append,ih,List.map_map,List.replicate_succ',List.flatten_append]
  congr 1
  simp only[List.flatten_cons,List.flatten_nil,List.append_nil]
  apply List.ext_getElem?
  intro j
  simp only[List.getElem?_map]
  by_cases hj:j<z
  ·rw[List.getElem?_range hj]
   simp only[Option.map_some,Function.comp]
   have hm:(n*z+j)%z=j:=by rw[Nat.add_comm,Nat.add_mul_mod_self_right];exact Nat.mod_eq_of_lt hj
   rw[hm,getElem!_pos _ _ (by simp;omega)]
   simp[List.getElem?_eq_getElem (show j<l.length by omega)]
  ·rw[List.getElem?_eq_none (by simp;omega),List.getElem?_eq_none (by omega)];rfl
theorem w8 {fr:Nat→Nat} {w:World} {zs:List PV} {vs:List Value}(r:zr fr w zs vs):∀n:Nat,zr fr w (kB n zs) (List.replicate n vs).flatten
 |0=>by simp[kB,zr]
 |n+1=>by
  simp only[kB,List.replicate_succ,List.flatten_cons]
  exact r.append (w8 r n)
def QW(P:Program)(S:St)(d:Nat)(T:TypeId)(l c:AV):Prop×St:=
 match ty P T,l,c with
 |some ⟨.slice e,_,_,_⟩,.p (.int _ n),.p (.int _ m)=>
  match ty P e with
  |some ⟨_,z,bytes,some zs⟩=>
   ((zs.all PV.one=true∧zs.length=z∧0<bytes∧[d] ∉ S.pin∧d<S.n)∧m=n∧0≤n∧n*bytes≤140737488355328,
    (Zx S [d] ((kB n.toNat zs).map .p)).set d (.la [d] z 0 n.toNat))
  |_=>(False,S)
 |_,_,_=>(False,S)
theorem zgB {x:Int}(h1: -9223372036854775808≤x)(h2:x≤9223372036854775807):IntKind.i64.wrap x=x:=by
 simp only[IntKind.wrap,IntKind.signed,IntKind.bits]
 simp
 omega
theorem Vi [Gi] {P:Program} {E:Ent} {S:St} {g:Gh} {a:Act} {w:World}(hS:SR E S g a w) {d:Nat} {T:TypeId} {l c:AV} {lv cv:Value}(h:(QW P S d T l c).1)(rl:za g w l lv)(rc:za g w c cv):
  ∃r w' g',(Instr.makeSlice T lv cv).run P w=.ok r w'∧SR E (QW P S d T l c).2 g' (a.put (some d) r) w':=by
 unfold QW at h⊢
 split at h
 ·rename_i e sz by_ ze k n k' m hT
  split at h
  ·rename_i dd z bytes zs hE
   obtain⟨⟨hall,hzl,hb,hpin,hd⟩,rfl,h0,hfit⟩:=h
   simp only[za,zi]at rl rc
   subst rl;subst rc
   have hu:=zo w hT
   simp only[]at hu
   have hs:=qc w hE
   simp only[]at hs
   obtain⟨i,hi,hib⟩:=zcm hE
   simp only[]at hib
   obtain⟨zv,hz1,hz2⟩:=QG hE rfl
   have hzl':zv.cells.toList.length=z:=by rw[←hzl,←hz2];simp
   have hnb:m≤140737488355328:=by
    have:m*1≤m*bytes:=Int.mul_le_mul_of_nonneg_left (by omega) h0
    omega
   have hw:IntKind.i64.wrap m=m:=zgB (by omega) (by omega)
   have hz:zr g.fr w zs zv.cells.toList:=zr.of_map hz2 hall
   have harr:((Array.range (m.toNat*z)).map (fun i=>zv.cells[i%zv.cells.size]!)).toList=(List.replicate m.toNat zv.cells.toList).flatten:=by
    have:=xY z zv.cells.toList hzl' m.toNat
    rw[←this]
    simp only[Array.toList_map,Array.toList_range,Array.toArray_toList]
    have hsz:zv.cells.size=z:=by rw[←hzl'];simp
    rw[hsz]
   obtain⟨g',k1,k2⟩:=hS.Zx (arr:=(Array.range (m.toNat*z)).map (fun i=>zv.cells[i%zv.cells.size]!)) [d] hpin e (by rw[harr];exact(w8 hz m.toNat).Kj)
   have hrun:(Instr.makeSlice T (.int k m) (.int k' m)).run P w=.ok (.slice (some ⟨w.heap.size,0,none⟩) m.toNat m.toNat) (w.alloc (.cells ((Array.range (m.toNat*z)).map (fun i=>zv.cells[i%zv.cells.size]!)) e)):=by
    have ht:¬((i.bytes:Int)*m>2^48):=by
     rw[hib,Int.mul_comm];omega
    unfold Instr.makeSlice
    simp only[Sem.run_bind,hu,Result.andThen_ok,asInt,asIntOf,Sem.run_pure,hi,hw]
    have c1:(decide (m<0) || decide (↑i.bytes*m>2^48) || decide (m<0) || decide (m>m))=false:=by
     simp only[Bool.or_eq_false_iff,decide_eq_false_iff_not]
     exact⟨⟨⟨by omega,ht⟩,by omega⟩,by omega⟩
    rw[c1]
    simp only[Bool.false_eq_true,if_false,Sem.run_bind,run_askRoom,Result.andThen_ok,hs]
    by_cases hnz:m.toNat*z=0
    ·simp only[hnz,if_true,Sem.run_bind,Sem.run_pure,Result.andThen_ok,newRow,run_newObj]
     have e1:∀f:Nat→Value,(Array.range 0).map f= #[]:=fun f=>by simp
     rw[e1,e1]
     rfl
    ·simp only[hnz,if_false,Sem.run_bind,Sem.run_pure,Result.andThen_ok,hz1,newRow,run_newObj]
     rfl
   exact⟨_,_,g',hrun,k1.put (by simp only[za];exact⟨_,0,_,k2,rfl,Nat.le_refl _,.inr rfl,_,e,by rw[heap_alloc,if_pos rfl],by simp⟩) hd⟩
  ·exact h.elim
 ·exact h.elim
def xq(P:Program)(S:St)(T:TypeId)(x y:AV):Prop×Int×St:=
 match x,jY P T,zbc S y with
 |.la t z o n,some size,some (cy,zy,ys)=>
  match zw S.rs t with
  |some cs=>((cy∧z=size∧zy=size∧ys.all PV.fits=true)∧o+(min ys.length n)*z≤cs.length∧((ys.take (min ys.length n)).flatMap PV.cells).length=(min ys.length n)*z,
    ((min ys.length n:Nat):Int),Z1 S t (zL cs o (((ys.take (min ys.length n)).flatMap PV.cells).map .p)))
  |none=>(False,0,S)
 |_,_,_=>(False,0,S)
def uK(P:Program)(S:St)(T:TypeId)(x:AV):Prop×St:=
 match x,ty P T with
 |.la t z o n,some ⟨.slice e,_,_,_⟩=>
  match ty P e,zw S.rs t with
  |some ⟨_,size,_,some zs⟩,some cs=>((z=size∧zs.length=size∧zs.all PV.one=true)∧o+n*z≤cs.length,Z1 S t (zL cs o ((kB n zs).map .p)))
  |_,_=>(False,S)
 |_,_=>(False,S)
theorem uN:∀(l:List PV) (vs:List Value) (z k:Nat) {fr:Nat→Nat} {w:World},zr fr w (l.flatMap PV.cells) vs→((l.take k).flatMap PV.cells).length=k*z→zr fr w ((l.take k).flatMap PV.cells) (vs.take (k*z)):=by
 intro l vs z k fr w r h
 have e:l.flatMap PV.cells=(l.take k).flatMap PV.cells++(l.drop k).flatMap PV.cells:=by rw[←List.flatMap_append,List.take_append_drop]
 rw[e]at r
 have:=r.take (k*z)
 rwa[←h,List.take_left,h]at this
theorem zbz [Gi] {P:Program} {E:Ent} {S:St} {g:Gh} {a:Act} {w:World}(hS:SR E S g a w) {T T' tt:TypeId} {x y:AV} {u v:Value}(h:(xq P S T x y).1)(rx:za g w x u)(ry:za g w y v):
  ∃w' g',(Builtin.copy_ #[T,T'] tt #[u,v]).run P w=.ok (.int .i64 (xq P S T x y).2.1) w'∧SR E (xq P S T x y).2.2 g' a w':=by
 unfold xq at h⊢
 split at h
 ·rename_i t z o n size cy zy ys hz hy
  simp only[za]at rx
  obtain⟨b,o',cap,hk,rfl,hcap,ho,hB⟩:=rx
  cases hl:zw S.rs t with
  |none=>simp only[hl]at h
  |some cs=>
   simp only[hl]at h⊢
   obtain⟨⟨hcy,hz1,hz2,hfits⟩,hlen,hfl⟩:=h
   subst hz1;subst hz2
   obtain⟨hlo,ns,n1,n2,n3,n4,n5,_⟩:=vz (P:=P) hS hy hcy ry
   have hE:∃e D T',ty P T=some D∧D.desc=.slice e∧ty P e=some T'∧T'.size=zy:=by
    unfold jY at hz
    split at hz
    ·rename_i e _ _ _ hT
     simp only[Option.map_eq_some_iff]at hz
     obtain⟨T',h1,h2⟩:=hz
     exact⟨e,_,T',hT,rfl,h1,h2⟩
    ·cases hz
   obtain⟨e,D,TE,hT,hD,hTE,hsz⟩:=hE
   have hu:=fun w=>zo (P:=P) w hT
   rw[hD]at hu
   have hs:=fun w=>qc (P:=P) w hTE
   rw[hsz]at hs
   have hkm:min ys.length n≤ys.length:=Nat.min_le_left _ _
   have h5:=n5 w (min ys.length n) hkm (fun _ _=>rfl)
   have hnl:(ns.take (min ys.length n*zy)).length=min ys.length n*zy:=by
    rw[List.length_take,n1]
    exact Nat.min_eq_left (Nat.mul_le_mul_right _ hkm)
   have hrl:=uN ys ns zy (min ys.length n) (n4 hfits) hfl
   have hrc:=hrl.Kj
   have fin:∀w',(storeCells ⟨b,o',none⟩ (ns.take (min ys.length n*zy))).run P w=.ok () w'→
     (Builtin.copy_ #[T,T'] tt #[.slice (some ⟨b,o',none⟩) n cap,v]).run P w=.ok (.int .i64 ((min ys.length n:Nat):Int)) w':=by
    intro w' hst
    simp only[Nat.min_def]at h5 hst⊢
    simp[Builtin.copy_,hu,hs,hlo,goInt,Nat.min_def,h5,hst]
   rcases Nat.eq_zero_or_pos n with hn0|hn0
   ·subst hn0
    simp only[Nat.min_zero,Nat.zero_mul,List.take_zero,List.flatMap_nil,List.map_nil]at fin hlen⊢
    obtain⟨w',hw',hs'⟩:=hS.QB (P:=P) (o:=o) (ys:=[]) (vs:=[]) hk hl (by simpa using hlen) rfl (by simp)
    refine⟨w,g,fin w (by simp[storeCells]),?_⟩
    have hww:w'=w:=by
     simp only[storeCells,Sem.run_pure]at hw'
     injection hw' with _ e;exact e.symm
    rw[hww]at hs'
    exact hs'
   ·have ho':o'=o:=ho.resolve_left (by omega)
    subst ho'
    obtain⟨w',hw',hs'⟩:=hS.QB (P:=P) (o:=o') (ys:=((ys.take (min ys.length n)).flatMap PV.cells).map .p) (vs:=ns.take (min ys.length n*zy)) hk hl (by simp only[List.length_map];omega) (by simp only[List.length_map];omega) (fun j x hj=>hrc.get hj)
    exact⟨w',g,fin w' hw',hs'⟩
 ·exact h.elim
theorem UP(zv:Value)(n:Nat):(Builtin.zeroCells zv.cells n).toList=(List.replicate n zv.cells.toList).flatten:=by
 have:=xY zv.cells.size zv.cells.toList (by simp) n
 rw[←this]
 simp only[Builtin.zeroCells,Array.toList_map,Array.toList_range,Array.toArray_toList]
theorem Y4 [Gi] {P:Program} {E:Ent} {S:St} {g:Gh} {a:Act} {w:World}(hS:SR E S g a w) {T tt:TypeId} {x:AV} {u:Value}(h:(uK P S T x).1)(rx:za g w x u):
  ∃w' g',(Builtin.clear_ #[T] tt #[u]).run P w=.ok (.tuple #[]) w'∧SR E (uK P S T x).2 g' a w':=by
 unfold uK at h⊢
 split at h
 ·rename_i t z o n e b1 b2 b3 hT
  simp only[za]at rx
  obtain⟨b,o',cap,hk,rfl,hcap,ho,hB⟩:=rx
  split at h
  ·rename_i d2 size b4 zs cs hE hl
   obtain⟨⟨rfl,hzl,hall⟩,hlen⟩:=h
   have hu:=fun w=>zo (P:=P) w hT
   simp only[]at hu
   obtain⟨zv,hz1,hz2⟩:=QG hE rfl
   have hzl':zv.cells.size=z:=by rw[←hzl,←hz2];simp
   have hz:zr g.fr w zs zv.cells.toList:=zr.of_map hz2 hall
   rcases Nat.eq_zero_or_pos n with hn0|hn0
   ·subst hn0
    obtain⟨w',hw',hs'⟩:=hS.QB (P:=P) (o:=o) (ys:=[]) (vs:=[]) hk hl (by simpa using hlen) rfl (by simp)
    have hww:w'=w:=by
     simp only[storeCells,Sem.run_pure]at hw'
     injection hw' with _ e;exact e.symm
    rw[hww]at hs'
    refine⟨w,g,?_,by simpa[kB,Z1]using hs'⟩
    simp[Builtin.clear_,hu]
   ·have ho':o'=o:=ho.resolve_left (by omega)
    subst ho'
    have hvl:(Builtin.zeroCells zv.cells n).toList.length=n*z:=by simp[Builtin.zeroCells,hzl']
    have hzn:(kB n zs).length=n*z:=by simp[kB,hzl]
    obtain⟨w',hw',hs'⟩:=hS.QB (P:=P) (o:=o') (ys:=(kB n zs).map .p) (vs:=(Builtin.zeroCells zv.cells n).toList) hk hl (by simp only[List.length_map];omega) (by simp only[List.length_map];omega)
     (fun j x hj=>by rw[UP];exact(w8 hz n).Kj.get hj)
    refine⟨w',g,?_,hs'⟩
    obtain⟨k,rfl⟩:∃k,n=k+1:=⟨n-1,by omega⟩
    simp[Builtin.clear_,hu,hz1,hw']
  ·exact h.elim
 ·exact h.elim
end
end Go.AM
