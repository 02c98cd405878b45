/- A part of this seat's proofs, by an abstract machine. Conditions: each law's. -/
import Derived.Test.YtfjdbbpimklecaaGreatDoorV06
namespace Go.AM
section
def zlp(P:Program)(g:Gh)(w:World)(z m:Nat)(ys:List AV)(v:Value):Prop:=
 (∀w',(Builtin.lenOf v).run P w'=.ok m w')∧∃vs:List Value,vs.length=m*z∧RC g w ys vs∧∀w',(∀b o,w'.cell? ⟨b,o,none⟩=w.cell? ⟨b,o,none⟩)→(Builtin.firstCells z m v).run P w'=.ok vs.toArray w'
def zdI(S:St)(y:AV)(z:Nat):Option (Prop×Nat×List AV):=
 match y with
 |.la k z' o m=>
  match zw S.rs k with
  |some cs=>some ((z'=z∧((cs.drop o).take (m*z)).length=m*z∧0<m),m,(cs.drop o).take (m*z))
  |none=>none
 |y=>match zeV y with
  |some (z',es)=>some ((z'=z∧es.all PV.fits=true),es.length,(es.flatMap PV.cells).map .p)
  |none=>none
theorem Ul [Gi] {P:Program} {E:Ent} {S:St} {g:Gh} {a:Act} {w:World}(hS:SR E S g a w) {y:AV} {z m:Nat} {c:Prop} {ys:List AV} {v:Value}(e:zdI S y z=some (c,m,ys))(hc:c)(r:za g w y v):zlp P g w z m ys v:=by
 unfold zdI at e
 split at e
 ·rename_i k z' o m'
  simp only[za]at r
  obtain⟨b,o',cap,hk,rfl,hcap,ho,_⟩:=r
  cases hl:zw S.rs k with
  |none=>rw[hl]at e;cases e
  |some cs=>
   rw[hl]at e
   simp only[Option.some.injEq,Prod.mk.injEq]at e
   obtain⟨rfl,rfl,rfl⟩:=e
   obtain⟨rfl,hlen,hm⟩:=hc
   have ho':o'=o:=ho.resolve_left (by omega)
   subst ho'
   obtain⟨cs',hl',h0,arr,T,hb,hle,hcs⟩:=hS.roots b k hk
   rw[hl]at hl';injection hl' with hl';subst hl'
   have hdl:o'+m'*z'≤cs.length∨m'*z'=0:=by
    simp only[List.length_take,List.length_drop]at hlen
    omega
   refine⟨fun w'=>by simp[Builtin.lenOf],(arr.toList.drop o').take (m'*z'),?_,⟨?_,fun u hu=>?_⟩,fun w' hw=>?_⟩
   ·simp only[List.length_take,List.length_drop,Array.length_toList]
    omega
   ·have key:∀(xs:List AV) (vs:List Value),xs.length=vs.length→(∀(j:Nat) (x:AV),xs[j]?=some x→∃v,vs[j]?=some v∧za g w x v)→zm g w xs vs:=by
     intro xs
     induction xs with
     |nil=>intro vs h _;simp only[zm];exact List.eq_nil_of_length_eq_zero (by simpa using h.symm)
     |cons x xs ih=>
      intro vs h hx
      cases vs with
      |nil=>simp at h
      |cons v vs=>
       simp only[zm]
       obtain⟨u,hu,hr⟩:=hx 0 x rfl
       simp at hu;subst hu
       exact⟨v,vs,rfl,hr,ih vs (by simpa using h) fun j y hj=>hx (j+1) y (by simpa using hj)⟩
    refine key _ _ ?_ ?_
    ·rw[hlen];simp only[List.length_take,List.length_drop,Array.length_toList];omega
    ·intro j x hj
     rw[List.getElem?_take]at hj
     split at hj
     ·rename_i hjm
      rw[List.getElem?_drop]at hj
      obtain⟨u,hu,_,hr⟩:=hcs _ x hj
      exact⟨u,by rw[List.getElem?_take,if_pos hjm,List.getElem?_drop];simpa using hu,hr⟩
     ·cases hj
   ·obtain⟨j,hj⟩:=List.mem_iff_getElem?.1 hu
    rw[List.getElem?_take]at hj
    split at hj
    ·rename_i hjm
     rw[List.getElem?_drop]at hj
     obtain⟨x,hx⟩:∃x,cs[o'+j]?=some x:=⟨_,List.getElem?_eq_getElem (by omega)⟩
     obtain⟨u',hu',h1,_⟩:=hcs _ x hx
     have:arr.toList[o'+j]?=some u':=by simpa using hu'
     rw[hj]at this;injection this with this;subst this;exact h1
    ·cases hj
   ·simp only[Builtin.firstCells]
    have hvl:((arr.toList.drop o').take (m'*z')).length=m'*z':=by
     simp only[List.length_take,List.length_drop,Array.length_toList];omega
    have:=run_loadCells_list (P:=P) w' ⟨b,o',none⟩ ((arr.toList.drop o').take (m'*z')) (fun j u hj=>by
     rw[List.getElem?_take]at hj
     split at hj
     ·rw[List.getElem?_drop]at hj
      rw[addr_add,hw b (o'+j),zT hb]
      simpa using hj
     ·cases hj)
    rwa[hvl]at this
 ·rename_i hno
  split at e
  ·rename_i z' es hy
   simp only[Option.some.injEq,Prod.mk.injEq]at e
   obtain⟨rfl,rfl,rfl⟩:=e
   obtain⟨rfl,hf⟩:=hc
   have hs:zbc S y=some (True,z',es):=by
    unfold zbc
    split
    ·rename_i t z o n;exact absurd rfl (hno t z o n)
    ·rw[hy]
   obtain⟨h1,vs,h2,h3,h4,h5,_⟩:=vz (P:=P) hS hs trivial r
   exact⟨h1,vs,h2,(h5 hf).Kj,h4⟩
  ·cases e
def zh5(S:St)(x:AV)(z:Nat):Option (Prop×Option Tok×List AV×Nat):=
 match x with
 |.la t z' o n=>
  match zw S.rs t with
  |some cs=>some ((z'=z∧o=0∧0<n∧cs.length=n*z),some t,cs,n)
  |none=>none
 |.ow _ _ es=>if es.isEmpty then some (True,none,[],0)else none
 |x=>if Zv x then some (True,none,[],0)else none
def Z9(t:Option Tok)(d:Nat):Tok→Bool:=fun u=>u !=[d]&&some u !=t
def Ud(S:St)(t:Option Tok)(d:Nat)(cs:List AV):St:=
 {S.fil (Z9 t d) ftt with rs:=jg (S.fil (Z9 t d) ftt).rs [d] (cs.map (AV.upd (fil (Z9 t d) ftt)))}
def vX(P:Program)(S:St)(d:Nat)(sT xT:TypeId)(x y:AV):Prop×St:=
 match ty P sT,ty P xT with
 |some ⟨.slice e,_,_,_⟩,some X=>
  match ty P e with
  |some ⟨_,size,bytes,some zs⟩=>
   match zh5 S x size,zdI S y size with
   |some (cx,t,cs,n),some (cy,m,ys)=>
    ((cx∧cy∧vF X.desc=true∧zs.length=size∧0<bytes∧d<S.n)∧S.pin.all (Z9 t d)=true∧0<m∧(n+m)*bytes≤140737488355328,
     (Ud S t d (cs++ys)).set d (.la [d] size 0 (n+m)))
   |_,_=>(False,S)
  |_=>(False,S)
 |_,_=>(False,S)
theorem SR.grow [Gi] {E:Ent} {S:St} {g:Gh} {a:Act} {w w':World}(h:SR E S g a w) {t:Option Tok} {d:Nat}(hpin:S.pin.all (Z9 t d)=true) {B:Nat} {arr:Array Value} {T:TypeId} {cs:List AV} {vs:List Value}
  (hB:(g.fil (Z9 t d) ftt).K B=.prot) (hm:E.may B) (h0:g.fr B=0) (hold:∀b,b<w.heap.size→b≠B→w'.heap[b]?=w.heap[b]?) (hb:w'.heap[B]?=some (.cells arr T (0,0)))
  (hout:w'.os=w.os∧w'.tape=w.tape∧w'.output=w.output) (hmono:w.heap.size≤w'.heap.size) (hr:RC g w cs vs) (hv:∀(j:Nat) (v:Value),vs[j]?=some v→arr[j]?=some v):
  ∃g',SR E (Ud S t d cs) g' a w'∧g'.K B=.root [d]:=by
 have hp:∀u,u∈S.pin→Z9 t d u=true:=fun u hu=>List.all_eq_true.1 hpin u hu
 have k1:=h.filter (Z9 t d) ftt hp
 have hneB:∀c,(g.fil (Z9 t d) ftt).K c≠ .prot→c≠B:=fun c hc e=>hc (e▸hB)
 have hlt:∀c,(g.fil (Z9 t d) ftt).K c≠ .prot→c<w.heap.size:=fun c hc=>(k1.own c hc).1
 have hext:Ext g.fr w g.fr w':=fun c o ho=>⟨ho,zP (hold c (h.J1 ho) (fun e=>by subst e;omega))⟩
 have hBlk:∀c u,(g.fil (Z9 t d) ftt).K c=.root u→∀n,Blk w c n→Blk w' c n:=fun c u hk n hn=>
  Blk.of_heap (hold c (hlt c (by rw[hk];simp)) (hneB c (by rw[hk];simp))) hn
 have kp:xc g w (g.fil (Z9 t d) ftt) w' (Z9 t d) ftt:=⟨hext,fun c u hu hk=>⟨Gh.zS.2 ⟨hk,hu⟩,hBlk c u (Gh.zS.2 ⟨hk,hu⟩)⟩,fun c u hu hk=>by
  have e:(g.fil (Z9 t d) ftt).K c=.tail u:=Gh.qG.2 ⟨hk,hu⟩
  exact⟨e,rfl,hold c (hlt c (by rw[e];simp)) (hneB c (by rw[e];simp))⟩⟩
 have k2:SR E (S.fil (Z9 t d) ftt) (g.fil (Z9 t d) ftt) a w':=by
  refine k1.keep (fr':=g.fr) ⟨hext,fun c u _ hk=>⟨hk,hBlk c u hk⟩,fun c u _ hk=>⟨hk,rfl,hold c (hlt c (by rw[hk];simp)) (hneB c (by rw[hk];simp))⟩⟩ (fun c u hk=>⟨hold c (hlt c (by rw[hk];simp)) (hneB c (by rw[hk];simp)),rfl⟩)
   (fun c hc=>⟨hold c (h.yQ hc) (fun e=>hc (e▸hm)),rfl⟩) hout hmono (fun c hc=>h.frb c (by omega))
 have hlen:=hr.1.len
 have hvl:vs.length≤arr.size:=by
  rcases Nat.eq_zero_or_pos vs.length with e|e
  ·omega
  ·have h1:=hv (vs.length-1) vs[vs.length-1] (List.getElem?_eq_getElem (by omega))
   have:=(Array.getElem?_eq_some_iff.1 h1).1
   omega
 have k3:=k2.uX (b:=B) (t:=[d]) (cs:=cs.map (AV.upd (fil (Z9 t d) ftt))) (arr:=arr) (T:=T) hB hm (fun c hc=>by
   have:=(Gh.zS.1 hc).2;simp[Z9]at this) hb h0 (by simp;omega) (fun j x hj=>by
   simp only[List.getElem?_map,Option.map_eq_some_iff]at hj
   obtain⟨y,hy,rfl⟩:=hj
   obtain⟨v,hv',h1,hr'⟩:=hr.get hy
   exact⟨v,hv j v hv',h1,za.upd kp _ _ hr'⟩)
 exact⟨_,k3,zX _ _ _⟩
theorem Kk [Gi] {P:Program} {E:Ent} {S:St} {g:Gh} {a:Act} {w:World}(hS:SR E S g a w) {d:Nat} {sT xT tt:TypeId} {x y:AV} {u v:Value}(h:(vX P S d sT xT x y).1)
  (rx:za g w x u) (ry:za g w y v):
  ∃r w' g',(Builtin.append_ #[sT,xT] tt #[u,v]).run P w=.ok r w'∧SR E (vX P S d sT xT x y).2 g' (a.put (some d) r) w':=by
 unfold vX at h⊢
 split at h
 ·rename_i e sz by_ ze X hT hX
  split at h
  ·rename_i dd size bytes zs hE
   split at h
   ·rename_i cx t cs n cy m ys hx hy
    obtain⟨⟨hcx,hcy,hXi,hzl,hb,hd⟩,hpin,hm,hfit⟩:=h
    obtain⟨hlen,ns,n1,n2,n3⟩:=Ul (P:=P) hS hy hcy ry
    -- what is appended to
    have hdst:∃base cap os,u=.slice base n cap∧os.length=n*size∧RC g w cs os∧(∀w',(∀b o,w'.cell? ⟨b,o,none⟩=w.cell? ⟨b,o,none⟩)→(Builtin.firstCells size n (.slice base n cap)).run P w'=.ok os.toArray w')∧
      ((cap=0∧n=0)∨∃b k arr T,base=some ⟨b,0,none⟩∧t=some k∧g.K b=.root k∧g.fr b=0∧w.heap[b]?=some (.cells arr T (0,0))∧cap*size≤arr.size∧∀(j:Nat) (q:Value),os[j]?=some q→arr[j]?=some q):=by
     unfold zh5 at hx
     split at hx
     ·rename_i k z' o n'
      cases hl:zw S.rs k with
      |none=>rw[hl]at hx;cases hx
      |some cs'=>
       rw[hl]at hx
       simp only[Option.some.injEq,Prod.mk.injEq]at hx
       obtain⟨rfl,rfl,rfl,rfl⟩:=hx
       obtain⟨rfl,rfl,hn,hcl⟩:=hcx
       have rx':=rx
       simp only[za]at rx'
       obtain⟨b,o',cap,hk,rfl,hcap,ho,arr,T,hb1,hb2⟩:=rx'
       have ho':o'=0:=ho.resolve_left (by omega)
       subst ho'
       have hsg:zdI S (.la k z' 0 n') z'=some ((z'=z'∧((cs'.drop 0).take (n'*z')).length=n'*z'∧0<n'),n',(cs'.drop 0).take (n'*z')):=by unfold zdI;simp only[hl]
       obtain⟨_,os,o1,o2,o3⟩:=Ul (P:=P) hS hsg ⟨rfl,by simp[hcl],hn⟩ rx
       have hcs:(cs'.drop 0).take (n'*z')=cs':=by rw[List.drop_zero,List.take_of_length_le (by omega)]
       rw[hcs]at o2
       obtain⟨cs2,hl2,hf0,arr2,T2,hb3,hle,hc2⟩:=hS.roots b k hk
       rw[hb1]at hb3
       injection hb3 with hb3;injection hb3 with e1 e2;subst e1
       refine⟨some ⟨b,0,none⟩,cap,os,rfl,o1,o2,o3,.inr ⟨b,k,arr,T,rfl,rfl,hk,hf0,hb1,by omega,fun j q hj=>?_⟩⟩
       have hh:=o3 w (fun _ _=>rfl)
       simp only[Builtin.firstCells]at hh
       have hnle:n'*z'≤arr.size:=Nat.le_trans (Nat.mul_le_mul_right _ hcap) (by omega)
       have hl3:=run_loadCells_list (P:=P) w ⟨b,0,none⟩ (arr.toList.take (n'*z')) (fun j u hj=>by
        rw[List.getElem?_take]at hj
        split at hj
        ·rw[addr_add,Nat.zero_add,zT hb1];simpa using hj
        ·cases hj)
       rw[show(arr.toList.take (n'*z')).length=n'*z' from by simp;omega,hh]at hl3
       injection hl3 with hl3
       have:os=arr.toList.take (n'*z'):=by simpa using hl3
       rw[this,List.getElem?_take]at hj
       split at hj
       ·simpa using hj
       ·cases hj
     ·split at hx
      ·rename_i hem
       simp only[Option.some.injEq,Prod.mk.injEq]at hx
       obtain⟨rfl,rfl,rfl,rfl⟩:=hx
       simp only[List.isEmpty_iff]at hem
       subst hem
       simp only[za]at rx
       obtain⟨_,ba,rfl⟩:=rx
       refine⟨ba,0,[],rfl,by simp,⟨by simp[zm],by simp⟩,fun w' _=>?_,.inl ⟨rfl,rfl⟩⟩
       cases ba with
       |none=>simp[Builtin.firstCells]
       |some b=>
        simp only[Builtin.firstCells,Nat.zero_mul]
        exact run_loadCells_list (P:=P) w' b [] (fun j u hj=>by simp at hj)
      ·cases hx
     ·split at hx
      ·rename_i hnil
       simp only[Option.some.injEq,Prod.mk.injEq]at hx
       obtain⟨rfl,rfl,rfl,rfl⟩:=hx
       have hu:u=.slice none 0 0:=by
        unfold Zv at hnil
        split at hnil
        ·simp only[za,zi]at rx;exact rx
        ·cases hnil
       refine⟨none,0,[],hu,by simp,⟨by simp[zm],by simp⟩,fun w' _=>by simp[Builtin.firstCells],.inl ⟨rfl,rfl⟩⟩
      ·cases hx
    obtain⟨base,cap,os,rfl,o1,o2,o3,hown⟩:=hdst
    have hrc:RC g w (cs++ys) (os++ns):=⟨o2.1.append n2.1,fun q hq=>by
     rcases List.mem_append.1 hq with hq|hq
     ·exact o2.2 q hq
     ·exact n2.2 q hq⟩
    rcases Nat.lt_or_ge cap (n+m)with hg|hroom
    ·obtain⟨ncap,rest,c1,c2,c3⟩:=kY (P:=P) (w:=w) (tt:=tt) (os:=os) (ns:=ns) hT rfl hX hXi hE rfl hlen hg hb hfit (fun w' hw=>o3 w' hw) (fun w' hw=>n3 w' hw)
     have hp:(g.fil (Z9 t d) ftt).K w.heap.size=.prot:=by
      rcases Classical.em (g.K w.heap.size=.prot)with e'|e'
      ·show(g.K w.heap.size).fil _ _=_;rw[e'];rfl
      ·have:=(hS.own _ e').1;omega
     have hheap:(w.drew.alloc (.cells (os++ns++rest).toArray e)).heap[w.heap.size]?=some (.cells (os++ns++rest).toArray e (0,0)):=by
      have:=heap_alloc w.drew (.cells (os++ns++rest).toArray e) w.heap.size
      rw[this];exact if_pos rfl
     obtain⟨g',k1,k2⟩:=hS.grow (w':=w.drew.alloc (.cells (os++ns++rest).toArray e)) (t:=t) (d:=d) hpin (B:=w.heap.size) hp (.inl hS.mono) (hS.frb _ (Nat.le_refl _)) (fun b hb hne=>by
      have:=heap_alloc w.drew (.cells (os++ns++rest).toArray e) b
      rw[this];exact if_neg hne) hheap ⟨rfl,rfl,rfl⟩ (by simp[World.alloc]) hrc (fun j q hj=>by
       have hjl:=(List.getElem?_eq_some_iff.1 hj).1
       have e1:((os++ns++rest).toArray)[j]?=(os++ns++rest)[j]?:=by simp
       rw[e1,List.getElem?_append_left hjl];exact hj)
     refine⟨_,_,g',c3,k1.put ?_ hd⟩
     simp only[za]
     refine⟨w.heap.size,0,ncap,k2,rfl,c1,.inr rfl,_,e,hheap,?_⟩
     simp only[Nat.zero_add,List.size_toArray,List.length_append,o1,n1,c2,hzl]
     have:ncap=n+m+(ncap- (n+m)):=by omega
     calc ncap*size=(n+m+(ncap- (n+m)))*size:=by rw[←this]
      _=n*size+m*size+(ncap- (n+m))*size:=by rw[Nat.add_mul,Nat.add_mul]
      _≤_:=Nat.le_refl _
    ·rcases hown with ⟨h2,h3⟩|⟨b,k,arr,T,rfl,rfl,hk,hf0,hb1,hcap,hos⟩
     ·omega
     ·have hmul:n*size+m*size≤cap*size:=by rw[←Nat.add_mul];exact Nat.mul_le_mul_right _ hroom
      have hst:=run_storeCells_at P b (n*size) T ns 0 arr w hb1 (by omega) n2.2
      simp only[Nat.add_zero]at hst
      have hsp:arr.toList.take (n*size)++ns++arr.toList.drop (n*size+ns.length)=zL arr.toList (n*size) ns:=rfl
      rw[hsp]at hst
      have hrun:=QV (P:=P) (w:=w) (tt:=tt) (base:=some ⟨b,0,none⟩) (ns:=ns) hT rfl hX hXi hE hlen hroom (n3 w (fun _ _=>rfl)) (by simp only[];rw[addr_add,Nat.zero_add];exact hst)
      have hown:=hS.own b (by rw[hk];simp)
      have hp:(g.fil (Z9 (some k) d) ftt).K b=.prot:=by
       show(g.K b).fil _ _=_
       rw[hk];simp[Kd.fil,Z9]
      have hheap:(w.setRow b (zL arr.toList (n*size) ns).toArray).heap[b]?=some (.cells (zL arr.toList (n*size) ns).toArray T (0,0)):=setRow_heap w b arr _ T (0,0) hb1
      obtain⟨g',k1,k2⟩:=hS.grow (w':=w.setRow b (zL arr.toList (n*size) ns).toArray) (t:=some k) (d:=d) hpin (B:=b) hp hown.2 hf0 (fun c hc hne=>zV _ _ _ _ hne) hheap ⟨rfl,rfl,rfl⟩ (by rw[size_setRow];exact Nat.le_refl _) hrc (fun j q hj=>by
       have e1:((zL arr.toList (n*size) ns).toArray)[j]?=(zL arr.toList (n*size) ns)[j]?:=by simp
       rw[e1,yV _ _ _ (by simp;omega)]
       have hjl:=(List.getElem?_eq_some_iff.1 hj).1
       simp only[List.length_append,o1,n1]at hjl
       by_cases hc:n*size≤j
       ·rw[if_pos (by omega)]
        rw[List.getElem?_append_right (by omega),o1]at hj
        exact hj
       ·rw[if_neg (by omega)]
        rw[List.getElem?_append_left (by omega)]at hj
        simpa using hos j q hj)
      refine⟨_,_,g',hrun,k1.put ?_ hd⟩
      simp only[za]
      refine⟨b,0,cap,k2,rfl,hroom,.inr rfl,_,T,hheap,?_⟩
      simp[zL];omega
   ·exact h.elim
  ·exact h.elim
 ·exact h.elim
def jO(P:Program)(S:St)(d:Nat)(T:TypeId)(n:Nat)(parts:List (Nat×Operand)):Prop×St:=
 match ty P T,ZX S parts with
 |some ⟨.slice e,_,_,_⟩,(c,some [(i,x)])=>
  match ty P e with
  |some ⟨_,z,_,some zs⟩=>((c∧i=0∧n=1∧x.length=z∧zs.length=z∧zs.all PV.one=true∧0<z∧z≤2^24∧[d] ∉ S.pin)∧d<S.n,(Zx S [d] x).set d (.la [d] z 0 1))
  |_=>(False,S)
 |_,_=>(False,S)
theorem Vl [Gi] {P:Program} {E:Ent} {S:St} {g:Gh} {a:Act} {w:World}(hS:SR E S g a w) {d:Nat} {T:TypeId} {n:Nat} {parts:Array (Nat×Operand)}(h:(jO P S d T n parts.toList).1):
  ∃r w' g',(Instr.buildSlice T n (parts.map fun x=>(x.1,a.eval x.2))).run P w=.ok r w'∧SR E (jO P S d T n parts.toList).2 g' (a.put (some d) r) w':=by
 unfold jO at h⊢
 split at h
 ·rename_i e sz by_ ze c i x hT hp
  split at h
  ·rename_i dd z bytes zs hE
   obtain⟨⟨hc,rfl,rfl,hxl,hzl,hall,hz0,hz24,hpin⟩,hd⟩:=h
   have hu:=zo w hT
   simp only[]at hu
   have hs:=qc w hE
   simp only[]at hs
   obtain⟨zv,hz1,hz2⟩:=QG hE rfl
   have hzl':zv.cells.size=z:=by rw[←hzl,←hz2];simp
   have hpa:(ZX S parts.toList).1:=by rw[hp];exact hc
   have hpb:(ZX S parts.toList).2=some [(0,x)]:=by rw[hp]
   obtain⟨h1,h2⟩:=yP hS hpa hpb
   have hz:zr g.fr w zs zv.cells.toList:=zr.of_map hz2 hall
   let arr0:Array Value:=(Array.range (1*z)).map fun i=>zv.cells[i%zv.cells.size]!
   have ha0:arr0.toList=zv.cells.toList:=by
    have:=xY z zv.cells.toList (by simpa using hzl') 1
    simp only[List.replicate_one,List.flatten_cons,List.flatten_nil,List.append_nil]at this
    rw[←this]
    simp only[arr0,Array.toList_map,Array.toList_range,hzl',Array.toArray_toList]
   have hr0:RC g w (zs.map .p) arr0.toList:=by rw[ha0];exact hz.Kj
   have hf:(xF (fun i=>some (i*z,z)) (zs.map .p) [(0,x)]).1:=by
    simp only[xF,Nat.zero_mul]
    exact⟨⟨hxl,by simp;omega⟩,trivial⟩
   obtain⟨arr',hfill,hR⟩:=xB hf hr0 h1 h2
   have hfv:(xF (fun i=>some (i*z,z)) (zs.map .p) [(0,x)]).2=x:=by
    simp only[xF,Nat.zero_mul,List.take_zero,List.nil_append,Nat.zero_add]
    rw[List.drop_of_length_le (by simp;omega),List.append_nil]
   rw[hfv]at hR
   have hrun:(Instr.buildSlice T 1 (parts.map fun x=>(x.1,a.eval x.2))).run P w=.ok (.slice (some ⟨w.heap.size,0,none⟩) 1 1) (w.alloc (.cells arr' e)):=by
    unfold Instr.buildSlice
    simp only[Sem.run_bind,hu,Result.andThen_ok,hs]
    rw[if_neg (by omega)]
    have hnz:¬(1*z=0):=by omega
    simp only[hnz,if_false,Sem.run_bind,Sem.run_pure,Result.andThen_ok,hz1]
    have hfill':Instr.fill (fun i=>some (i*z,z)) ((Array.range (1*z)).map fun i=>zv.cells[i%zv.cells.size]!) (parts.map fun x=>(x.1,a.eval x.2)).toList=some arr':=by
     rw[Array.toList_map];exact hfill
    rw[hfill']
    simp only[newRow,run_newObj,Sem.run_bind,Result.andThen_ok,Sem.run_pure]
    rfl
   obtain⟨g',k1,k2⟩:=hS.Zx [d] hpin e hR
   refine⟨_,_,g',hrun,k1.put ?_ hd⟩
   simp only[za]
   refine⟨w.heap.size,0,1,k2,rfl,Nat.le_refl _,.inr rfl,arr',e,by rw[heap_alloc,if_pos rfl],?_⟩
   have:=hR.1.len
   simp at this;omega
  ·exact h.elim
 ·exact h.elim
end
end Go.AM
