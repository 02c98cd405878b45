/- A part of this seat's proofs, by an abstract machine. Conditions: each law's. -/
import Derived.Test.YtfjdbbpimklecaaGreatDoorV08
import Derived.Maps.RangeRun
namespace Go.AM
section
def j9(t:Tok)(l:List Nat)(c:Option Nat):AV→AV
 |.it u ks xs l' c'=>if u=t then .it u ks xs l c else .it u ks xs l' c'
 |.os u z es=>if u=t then .p (.sl z es)else .os u z es
 |.om u a b=>if u=t then .zK else .om u a b
 |.ow u z es=>if u=t then .zK else .ow u z es
 |.bb u T m=>if u=t then .zK else .bb u T m
 |.st u j=>if u=t then .zK else .st u j
 |.tup _=>.zK
 |.gd _ _=>.zK
 |.ag _=>.zK
 |.fn _ _=>.zK
 |x=>x
def itz(t:Tok)(l:List Nat)(c:Option Nat):AV→AV
 |.ag xs=>.ag (xs.map (j9 t l c))
 |.fn f xs=>.fn f (xs.map (j9 t l c))
 |x=>j9 t l c x
def St.itz(S:St)(t:Tok)(l:List Nat)(c:Option Nat):St:=
 {S with vs:=S.vs.map fun x=>(x.1,x.2.upd (AM.itz t l c)),ts:=S.ts.map fun x=>(x.1,x.2.upd (AM.itz t l c)),rs:=S.rs.map fun x=>(x.1,x.2.map (AV.upd (AM.itz t l c)))}
theorem St.zgM(t:Tok)(l:List Nat)(c:Option Nat)(S:St)(u:Nat):(S.itz t l c).get u=(S.get u).upd (AM.itz t l c):=by
 have hk:(S.itz t l c).kept u=S.kept u:=rfl
 unfold St.get
 rw[hk]
 have h:∀m:List (Nat×AV),qV (look (m.map fun x=>(x.1,x.2.upd (AM.itz t l c))) u)=(qV (look m u)).upd (AM.itz t l c):=fun m=>by
  rw[vM (AV.upd (AM.itz t l c))]
  cases look m u<;>simp[qV,AV.upd,AM.itz,AM.j9]
 split
 ·exact h S.vs
 ·exact h S.ts
structure zcr(g:Gh)(w w':World)(t:Tok)(l:List Nat)(c:Option Nat):Prop where
 ext:Ext g.fr w g.fr w'
 kr:∀b u,g.K b=.root u→∀n,Blk w b n→Blk w' b n
 kt:∀b u,u≠t→g.K b=.tail u→w'.heap[b]?=w.heap[b]?
 own:∀ks xs l0 c0 v,za g w (.it t ks xs l0 c0) v→za g w' (.it t ks xs l c) v
theorem za.j9 {g:Gh} {w w':World} {t:Tok} {l:List Nat} {c:Option Nat}(k:zcr g w w' t l c)(x:AV)(v:Value)(r:za g w x v):za g w' (j9 t l c x) v:=by
 cases x with
 |p x=>simp only[AM.j9,za]at r⊢;exact r.ext k.ext
 |os u z es=>
  simp only[za]at r
  simp only[AM.j9]
  split
  ·simp only[za];exact r.1.ext k.ext
  ·rename_i hu
   simp only[za]
   refine⟨r.1.ext k.ext,r.2.imp id ?_⟩
   rintro⟨b,o,len,cap,e,hk,hf,hb⟩
   exact⟨b,o,len,cap,e,hk,hf,Blk.of_heap (k.kt b u hu hk) hb⟩
 |om u a b=>
  simp only[AM.j9]
  split
  ·simp only[za]
  ·rename_i hu
   simp only[za]at r⊢
   obtain⟨c,arr,n,e,hk,hf,hm,r1,r2⟩:=r
   exact⟨c,arr,n,e,hk,hf,(qT (k.kt c u hu hk)).trans hm,r1.ext k.ext,r2.ext k.ext⟩
 |ow u z es=>
  simp only[AM.j9]
  split
  ·simp only[za]
  ·rename_i hu
   simp only[za]at r⊢
   exact r
 |bb u T m=>
  simp only[AM.j9]
  split
  ·simp only[za]
  ·rename_i hu
   simp only[za]at r⊢
   refine r.imp id ?_
   rintro⟨b,cap,arr,e,hk,hf,hb,rest⟩
   exact⟨b,cap,arr,e,hk,hf,(k.kt b u hu hk).trans hb,rest⟩
 |st u j=>
  simp only[AM.j9]
  split
  ·simp only[za]
  ·rename_i hu
   simp only[za]at r⊢
   obtain⟨b,arr,c,e,hk,hm,rest⟩:=r
   exact⟨b,arr,c,e,hk,(qT (k.kt b u hu hk)).trans hm,rest⟩
 |it u ks xs l0 c0=>
  simp only[AM.j9]
  split
  ·rename_i hu;subst hu;exact k.own _ _ _ _ _ r
  ·rename_i hu
   simp only[za]at r⊢
   obtain⟨b,bm,since,seen,c0,arr,clock,e,hk,hf,hi,hs,hfm,hm,hold,r1,r2,rest⟩:=r
   have hx:=k.ext bm 0 hfm
   exact⟨b,bm,since,seen,c0,arr,clock,e,hk,hf,(k.kt b u hu hk).trans hi,hs,hx.1,hx.2.2.trans hm,hold,r1.ext k.ext,r2.ext k.ext,rest⟩
 |bz u T m=>
  simp only[AM.j9,za]at r⊢
  obtain⟨b,hk,hb,e⟩:=r
  exact⟨b,hk,k.kr b u hk _ hb,e⟩
 |lp u o=>simp only[AM.j9,za]at r⊢;exact r
 |la u z o n=>simp only[AM.j9,za]at r⊢;obtain⟨b,o',cap,hk,e,hn⟩:=r;exact⟨b,o',cap,hk,e,hn.1,hn.2.1,k.kr b u hk _ hn.2.2⟩
 |ip z e o=>
  simp only[AM.j9,za]at r⊢
  obtain⟨b,base,ev,hf,he⟩:=r
  exact⟨b,base,ev,Nat.le_trans hf (k.ext.le b),qo.ext k.ext z b [e] base (by simpa using hf) he⟩
 |_=>simp only[AM.j9,za]
theorem za.itz {g:Gh} {w w':World} {t:Tok} {l:List Nat} {c:Option Nat}(k:zcr g w w' t l c)(x:AV)(v:Value)(r:za g w x v):za g w' (AM.itz t l c x) v:=by
 cases x with
 |ag xs=>
  simp only[AM.itz,za]at r⊢
  obtain⟨vs,e,h1,r⟩:=r
  exact⟨vs,e,h1,zm.map _ (za.j9 k) xs _ r⟩
 |fn f xs=>
  simp only[AM.itz,za]at r⊢
  obtain⟨vs,e,r⟩:=r
  exact⟨vs,e,zm.map _ (za.j9 k) xs _ r⟩
 |_=>exact za.j9 k _ v r
theorem za.zke {g:Gh} {w w':World} {t:Tok} {l:List Nat} {c:Option Nat}(k:zcr g w w' t l c)(x:AV)(v:Value)(r:za g w x v):za g w' (x.upd (AM.itz t l c)) v:=by
 cases x with
 |tup xs=>
  simp only[AV.upd,za]at r⊢
  obtain⟨vs,e,r⟩:=r
  exact⟨vs,e,zm.map _ (za.itz k) xs _ r⟩
 |gd b x=>
  simp only[AV.upd,za]at r⊢
  exact⟨fun hc=>za.itz k x v (r.1 hc),r.2⟩
 |_=>exact za.itz k _ v r
theorem SR.itz [Gi] {E:Ent} {S:St} {g:Gh} {a:Act} {w:World}(h:SR E S g a w) {b:Nat} {t:Tok}(hk:g.K b=.tail t)(h0:g.fr b=0) {o:Obj} {l:List Nat} {c:Option Nat}
  (own:∀ks xs l0 c0 v,za g w (.it t ks xs l0 c0) v→za g (Go.ChangeMaps.setBlock w b o) (.it t ks xs l c) v):SR E (S.itz t l c) g a (Go.ChangeMaps.setBlock w b o):=by
 have hb:=h.own b (by rw[hk];simp)
 have hheap:=Qe (w:=w) (b:=b) (o:=o) hb.1
 have hsz:(Go.ChangeMaps.setBlock w b o).heap.size=w.heap.size:=by simp[Go.ChangeMaps.setBlock]
 have ne:∀d,d≠b→(Go.ChangeMaps.setBlock w b o).heap[d]?=w.heap[d]?:=fun d hd=>by rw[hheap,if_neg hd]
 have hext:Ext g.fr w g.fr (Go.ChangeMaps.setBlock w b o):=fun d q hq=>⟨hq,zP (ne d (fun e=>by subst e;omega))⟩
 have kp:zcr g w (Go.ChangeMaps.setBlock w b o) t l c:=⟨hext,fun d u hd n hn=>Blk.of_heap (ne d (fun e=>by subst e;rw[hk]at hd;cases hd)) hn,
  fun d u hu hd=>ne d (fun e=>by subst e;rw[hk]at hd;injection hd with hd;exact hu hd.symm),own⟩
 refine⟨h.size,h.defers,fun u=>by rw[St.zgM];exact za.zke kp _ _ (h.slots u),fun d u hd=>?_,h.ur,h.ut,fun d hd=>by rw[hsz];exact h.own d hd,fun d hd=>?_,h.ext.trans hext,h.out,by rw[hsz];exact h.mono,fun d hd=>h.frb d (by rw[hsz]at hd;exact hd),fun d u hd hu=>⟨(h.pins d u hd hu).1,fun n hn=>kp.kr d u (h.pins d u hd hu).1 n ((h.pins d u hd hu).2 n hn)⟩⟩
 ·have hcb:d≠b:=fun e=>by subst e;rw[hk]at hd;cases hd
  obtain⟨cs,hl,hz,arr,T,hbb,hle,hcc⟩:=h.roots d u hd
  refine⟨cs.map (AV.upd (AM.itz t l c)),?_,hz,arr,T,(ne d hcb).trans hbb,by simpa using hle,fun j x hj=>?_⟩
  ·simp only[St.itz]
   rw[uC (List.map (AV.upd (AM.itz t l c))),hl]
   rfl
  ·simp only[List.getElem?_map,Option.map_eq_some_iff]at hj
   obtain⟨y,hy,rfl⟩:=hj
   obtain⟨v,hv,h1,r⟩:=hcc j y hy
   exact⟨v,hv,h1,za.zke kp _ _ r⟩
 ·have e1:d≠b:=fun e=>by subst e;exact hd hb.2
  exact⟨(ne d e1).trans (h.frame d hd).1,(h.frame d hd).2⟩
def Wt(P:Program)(S:St)(d:Nat)(T:TypeId)(x:AV):Prop×St:=
 match ty P T,x with
 |some ⟨.map _ _,_,_,_⟩,.om t ks xs=>(d<S.n,(S.fil ftt (qW t [d])).set d (.it [d] ks xs (List.range ks.length) none))
 |_,_=>(False,S)
theorem Ya [Gi] {P:Program} {E:Ent} {S:St} {g:Gh} {a:Act} {w:World}(hS:SR E S g a w) {d:Nat} {T:TypeId} {x:AV} {v:Value}(h:(Wt P S d T x).1)(r:za g w x v):
  ∃u w' g',(Instr.range T v).run P w=.ok u w'∧SR E (Wt P S d T x).2 g' (a.put (some d) u) w':=by
 unfold Wt at h⊢
 split at h
 ·rename_i kt et sz by_ ze t ks xs hT
  have hu:=zo w hT
  simp only[]at hu
  simp only[za]at r
  obtain⟨bm,arr,clock,rfl,hK,h0,hm,r1,r2⟩:=r
  obtain⟨hb,hst⟩:=Qt hm
  obtain⟨hlt,hmay⟩:=hS.own bm (by rw[hK];simp)
  have h1:=hS.filter ftt (qW t [d])
  have hp:(g.fil ftt (qW t [d])).K bm=.prot:=by
   show(g.K bm).fil _ _=_
   rw[hK]
   simp[Kd.fil,qW]
  have h2:=h1.zb0 (m:=1) hp hmay hlt (by show g.fr bm≤1;omega)
  have h3:=h2.alloc (.mapIter (some bm) clock #[] clock)
  have hKd:∀c,(g.fil ftt (qW t [d])).K c≠ .tail [d]:=fun c hc=>by
   have:=(Gh.qG.1 hc).2
   simp[qW]at this
  have hpn:(g.fil ftt (qW t [d])).K w.heap.size=.prot:=by
   rcases Classical.em ((g.fil ftt (qW t [d])).K w.heap.size=.prot)with e|e
   ·exact e
   ·have:=(h1.own _ e).1;omega
  have h4:=h3.yk (b:=w.heap.size) (t:=[d]) hpn (.inl hS.mono) (by simp) hKd
  have hmem:∀e∈arr.toList,e.born<clock:=(Z5.1 hst).2
  have hlen:arr.size=ks.length:=by have:=vN r1;simpa using this
  have hne:w.heap.size≠bm:=by omega
  have hheap:(w.alloc (.mapIter (some bm) clock #[] clock)).heap[bm]?=w.heap[bm]?:=by rw[heap_alloc,if_neg (fun e=>hne e.symm)]
  have hext:Ext g.fr w (Zu g.fr bm 1) (w.alloc (.mapIter (some bm) clock #[] clock)):=fun c o ho=>by
   have hc:c≠bm:=fun e=>by subst e;omega
   have hcs:c≠w.heap.size:=fun e=>by subst e;have:=hS.frb _ (Nat.le_refl _);omega
   exact⟨by rw[qm _ _ _ hc];exact ho,zP (by rw[heap_alloc,if_neg hcs])⟩
  refine⟨.pointer (some ⟨w.heap.size,0,none⟩),w.alloc (.mapIter (some bm) clock #[] clock),_,?_,h4.put ?_ h⟩
  ·unfold Instr.range
   simp only[Sem.run_bind,hu,Result.andThen_ok,MapKept.run_getObj_map hb,Sem.run_pure,run_newObj]
   rfl
  ·simp only[za]
   refine⟨w.heap.size,bm,clock, #[],clock,arr,clock,rfl,zX _ _ _,?_,by rw[heap_alloc,if_pos rfl],⟨Nat.le_refl _,Nat.le_refl _⟩,?_,(qT hheap).trans hm,hmem,r1.ext hext,r2.ext hext,fun i e hi=>?_,fun i hi=>?_,fun i hi=>by cases hi⟩
   ·show Zu g.fr bm 1 w.heap.size=0
    rw[qm _ _ _ hne];exact hS.frb _ (Nat.le_refl _)
   ·show 0<Zu g.fr bm 1 bm
    rw[zX];omega
   ·have:=(Array.getElem?_eq_some_iff.1 hi).1
    simp
    omega
   ·have:=List.mem_range.1 hi;omega
 ·exact h.elim
def Wu(x:AV):PR:=
 match x with
 |.it _ ks xs _ (some i)=>(True,.tup [.p (elemAt ks i),.p (elemAt xs i)])
 |_=>bad
theorem VD {fr:Nat→Nat} {w:World} {ps:List PV} {vs:List Value} {i:Nat} {v:Value}(h:qp fr w ps vs)(hv:vs[i]?=some v):zi fr w (elemAt ps i) v:=by
 have hl:=vN h
 have hlt:i<ps.length:=by rw[←hl];exact(List.getElem?_eq_some_iff.1 hv).1
 exact qp.at_ h (by simp[elemAt,List.getElem?_eq_getElem hlt]) hv
theorem J4 {P:Program} {g:Gh} {w:World} {x:AV} {v:Value}(h:(Wu x).1)(r:za g w x v):∃u,(Instr.entry v).run P w=.ok u w∧za g w (Wu x).2 u:=by
 unfold Wu at h⊢
 split at h
 ·rename_i t ks xs left i
  simp only[za]at r
  obtain⟨b,bm,since,seen,c0,arr,clock,rfl,hk,hf,hi,hs,hfm,hm,hold,r1,r2,hl,hlt,hc⟩:=r
  obtain⟨rfl,e,he,seen',rfl⟩:=hc i rfl
  obtain⟨hb,hst⟩:=Qt hm
  refine⟨_,run_entry_at w b bm since seen' arr c0 e hi hb (by simpa using Array.mem_of_getElem? he) (Z5.1 hst).1,?_⟩
  simp only[za]
  refine⟨_,rfl,?_⟩
  simp only[zm,za]
  exact⟨_,_,rfl,VD r1 (by simp[he]),_,_,rfl,VD r2 (by simp[he]),rfl⟩
 ·exact h.elim
theorem zaP [Gi] {P:Program} {E:Ent} {S:St} {g:Gh} {a:Act} {w:World}(hS:SR E S g a w) {T:TypeId} {t:Tok} {ks xs:List PV} {left:List Nat} {cur:Option Nat} {v:Value}(r:za g w (.it t ks xs left cur) v):
  (left=[]∧(Instr.next v false T).run P w=.ok (.tuple #[.bool false]) w)∨
  ∃i∈left,∃w' k x,(Instr.next v false T).run P w=.ok (.tuple #[.bool true,k,x]) w'∧SR E (S.itz t (left.filter (· !=i)) (some i)) g a w'∧zi g.fr w' (elemAt ks i) k∧zi g.fr w' (elemAt xs i) x:=by
 have r0:=r
 simp only[za]at r
 obtain⟨b,bm,since,seen,c0,arr,clock,rfl,hk,hf,hi,hs,hfm,hm,hold,r1,r2,hl,hlt,hc⟩:=r
 obtain⟨hb,hst⟩:=Qt hm
 have hnd:=(Z5.1 hst).1
 rcases run_next_at (P:=P) w T b bm since c0 seen arr clock hi hb hold hs.1 with ⟨h0,hrun⟩|⟨e,he,w1,hw1,hrun⟩
 ·left
  refine⟨?_,hrun⟩
  rcases left with _|⟨i,l⟩
  ·rfl
  ·exfalso
   have hil:=hlt i (by simp)
   have h1:=(hl i arr[i] (Array.getElem?_eq_getElem hil)).1 (by simp)
   have hmem:arr[i]∈leftOf arr seen:=by
    unfold leftOf
    rw[Array.mem_filter]
    exact⟨Array.getElem_mem hil,by rw[h1];rfl⟩
   have:leftOf arr seen= #[]:=Array.eq_empty_of_size_eq_zero h0
   rw[this]at hmem
   simp at hmem
 ·right
  have hemem:e∈arr∧seen.contains e.born=false:=by
   have:e∈leftOf arr seen:=by simpa using he
   unfold leftOf at this
   rw[Array.mem_filter]at this
   exact⟨this.1,by simpa using this.2⟩
  obtain⟨i,hil,hie⟩:=Array.getElem_of_mem hemem.1
  have hi':arr[i]?=some e:=by rw[Array.getElem?_eq_getElem hil,hie]
  have hin:i∈left:=(hl i e hi').2 hemem.2
  have hS1:SR E S g a w1:=by
   rcases hw1 with rfl|rfl
   ·exact hS
   ·exact hS.drew
  have hh1:w1.heap=w.heap:=by rcases hw1 with rfl|rfl<;>rfl
  have hblt:b<w.heap.size:=(hS.own b (by rw[hk];simp)).1
  have hbne:bm≠b:=fun e=>by subst e;rw[hb]at hi;cases hi
  have hheap:=Qe (w:=w1) (b:=b) (o:=.mapIter (some bm) since (seen.push e.born) clock) (by rw[hh1];exact hblt)
  have hext:Ext g.fr w1 g.fr (Go.ChangeMaps.setBlock w1 b (.mapIter (some bm) since (seen.push e.born) clock)):=fun d q hq=>⟨hq,zP (by rw[hheap,if_neg (fun e=>by subst e;omega)])⟩
  have hext0:Ext g.fr w g.fr (Go.ChangeMaps.setBlock w1 b (.mapIter (some bm) since (seen.push e.born) clock)):=fun d q hq=>⟨hq,zP (by rw[hheap,if_neg (fun e=>by subst e;omega),hh1])⟩
  have hle:since≤clock:=hs.2
  refine⟨i,hin,_,e.key,e.val,hrun,hS1.itz hk hf (fun ks' xs' l0 c' v' r'=>?_),(VD r1 (by simp[hi'])).ext hext0,(VD r2 (by simp[hi'])).ext hext0⟩
  simp only[za]at r'⊢
  obtain⟨b',bm',since',seen',c0',arr',clock',rfl,hk',hf',hi2,hs',hfm',hm',hold',r1',r2',hl',hlt',hc'⟩:=r'
  obtain rfl:=hS.ut b b' t hk hk'
  rw[hh1,hi]at hi2
  injection hi2 with hi2;injection hi2 with q1 q2 q3 q4
  injection q1 with q1
  subst q1;subst q2;subst q3;subst q4
  have hm1:ZV w1 bm=ZV w bm:=qT (by rw[hh1])
  rw[hm1,hm]at hm'
  injection hm' with hm';injection hm' with e1 e2;subst e1;subst e2
  refine⟨b,bm,since,seen.push e.born,clock,arr,clock,rfl,hk',hf',by rw[hheap,if_pos rfl],⟨hle,hle⟩,hfm',(qT (by rw[hheap,if_neg hbne,hh1])).trans hm,hold',r1'.ext hext,r2'.ext hext,fun j ej hj=>?_,fun j hj=>?_,fun j hj=>?_⟩
  ·have hjl:=hl j ej hj
   have hne:ej.born=e.born↔j=i:=by
    constructor
    ·intro h
     have h1:(arr.toList.map (·.born))[j]?=(arr.toList.map (·.born))[i]?:=by simp[hj,hi',h]
     exact(List.getElem?_inj (by simpa using (Array.getElem?_eq_some_iff.1 hj).1) hnd).1 h1
    ·intro h;subst h;rw[hi']at hj;injection hj with hj;rw[hj]
   rw[List.mem_filter,hjl,Array.contains_push]
   by_cases hji:j=i
   ·subst hji
    rw[hi']at hj;injection hj with hj;subst hj
    simp
   ·have hb2:(ej.born==e.born)=false:=by simpa using fun h=>hji (hne.1 h)
    simp[hji]
    intro _
    exact fun h=>hji (hne.1 h)
  ·exact hlt j (List.mem_filter.1 hj).1
  ·injection hj with hj
   subst hj
   exact⟨rfl,e,hi',seen,rfl⟩
end
end Go.AM
