/- A part of the proof of this seat's statements, by an abstract machine: what each operation does to values, and what the law's functions compute. Conditions: as each law says. -/
import Derived.Test.YtjefahhmkcfiiaaGreatN04
import Derived.MapKept
section
namespace Go.AM
section
variable {P:Program} {fr:Nat→Nat} {w:World}
theorem x8(em:Bool):∀(d m:Nat) (t:TypeId) (ks:List Kc) (xs:List PV) (a:Value) (cs:List Value),ZQ P m t=some ks→okC ks xs=true→zG fr w xs cs→kI P t a cs→(Instr.checkKey em (d+m) t a).run P w=.ok () w
 |d,0,t,ks,xs,a,cs,hk,_,_,_=>by simp[ZQ]at hk
 |d,m+1,t,ks,xs,a,cs,hk,hx,rx,sa=>by
  unfold ZQ at hk
  have plain:∀{T:TypeDesc},P.underlying t=some T→(T=.bool∨(∃k,T=.int k)∨T=.string)→(Instr.checkKey em (d+(m+1)) t a).run P w=.ok () w:=by
   intro T hu hT
   rw[show d+(m+1)=(d+m)+1 from rfl,Instr.checkKey]
   simp only[Sem.run_bind,run_underlying hu,Result.andThen_ok]
   rcases hT with rfl|⟨k,rfl⟩|rfl<;>rfl
  split at hk
  ·rename_i hu;exact plain hu (.inl rfl)
  ·rename_i k hu;exact plain hu (.inr (.inl ⟨k,rfl⟩))
  ·rename_i hu;exact plain hu (.inr (.inr rfl))
  ·rename_i fs hu
   split at hk
   ·cases hk
   ·obtain⟨i,hi⟩:=info_of_underlying hu
    have ea:=sa ⟨.struct fs,i.size,i.bytes,i.zero.map fun v=>v.cells.toList.map yz⟩ (by simp[ty,hi,hu])
    simp only[qv,if_true]at ea
    subst ea
    rw[show d+(m+1)=(d+m)+1 from rfl,Instr.checkKey]
    simp only[Sem.run_bind,run_underlying hu,Result.andThen_ok]
    rw[←Array.forIn_toList]
    have rx':zG fr w xs (cs.toArray.toList.drop 0):=by simpa using rx
    clear rx sa
    generalize (0:Nat)=o at hk rx'
    generalize fs.toList=l at hk
    clear hu
    induction l generalizing o ks xs with
    |nil=>simp
    |cons f l ih=>
     unfold UX at hk
     split at hk
     ·rename_i b T ha hT
      split at hk
      ·rename_i hc
       obtain⟨hn,ho,hs,h1'⟩:=hc
       simp only[Option.map_eq_some_iff]at hk
       obtain⟨b2,hb,rfl⟩:=hk
       obtain⟨x1,x2⟩:=yw hx
       obtain⟨p,hp,sp⟩:=wq hT hs h1' x1 rx'
       have e1:=x8 em d m f.type b (xs.take b.length) p _ ha x1 (rx'.take _) sp
       simp only[List.forIn_cons,Sem.run_bind]
       rw[if_pos hn]
       rw[←ho]at hp
       simp only[Sem.run_bind,hp,Result.andThen_ok,e1,Sem.run_pure]
       exact ih b2 (xs.drop b.length) x2 (o+b.length) (by simpa[List.drop_drop]using rx'.drop b.length) hb
      ·cases hk
     ·cases hk
  ·rename_i n e hu
   split at hk
   ·rename_i al T hal hT
    split at hk
    ·rename_i hc
     injection hk with hk;subst hk
     obtain⟨i,hi⟩:=info_of_underlying hu
     have ea:=sa ⟨.array n e,i.size,i.bytes,i.zero.map fun v=>v.cells.toList.map yz⟩ (by simp[ty,hi,hu])
     simp only[qv,if_true]at ea
     subst ea
     rw[show d+(m+1)=(d+m)+1 from rfl,Instr.checkKey]
     simp only[Sem.run_bind,run_underlying hu,Result.andThen_ok]
     simp only[Std.Legacy.Range.forIn_eq_forIn_range',Std.Legacy.Range.size,Nat.sub_zero,Nat.add_one_sub_one,Nat.div_one]
     have rx':zG fr w xs (cs.toArray.toList.drop (0*al.length)):=by simpa using rx
     clear rx sa hu hi
     generalize (0:Nat)=k at rx'
     induction n generalizing k xs with
     |zero=>simp
     |succ n ih=>
      rw[List.replicate_succ,List.flatten_cons]at hx
      obtain⟨x1,x2⟩:=yw hx
      obtain⟨p,hp,sp⟩:=wq hT hc.1 hc.2 x1 rx'
      have e1:=x8 em d m e al (xs.take al.length) p _ hal x1 (rx'.take _) sp
      have hk:(k+1)*al.length=k*al.length+al.length:=by rw[Nat.add_mul];omega
      rw[List.range'_succ]
      simp only[List.forIn_cons,Sem.run_bind,qE w hT,Result.andThen_ok,hc.1,hp,e1,Sem.run_pure]
      exact ih (xs.drop al.length) x2 (k+1) (by rw[hk];simpa[List.drop_drop]using rx'.drop al.length)
    ·cases hk
   ·cases hk
  ·cases hk
end
def Jz(P:Program)(t:TypeId):Option PV:=(P.info? t).bind fun i=>i.zero.bind fun v=>if v.oneCell' then some (yz v)else none
theorem zau {P:Program} {t:TypeId} {z:PV}(h:Jz P t=some z)(fr:Nat→Nat)(w:World):∃v,(zeroValue t).run P w=.ok v w∧zk fr w z v:=by
 unfold Jz at h
 simp only[Option.bind_eq_some_iff]at h
 obtain⟨i,hi,v,hv,h⟩:=h
 split at h
 ·injection h with h;subst h
  exact⟨v,by simp[zeroValue,typeInfo,hi,hv],zk.yz v⟩
 ·cases h
theorem za1 {P:Program} {t:TypeId} {ks:List Kc}(h:ke P t=some ks):ZQ P 8 t=some ks∧∃T,P.underlying t=some T∧qv T=true:=by
 unfold ke at h
 split at h
 ·cases h
 ·cases hu:P.underlying t with
  |none=>rw[hu]at h;cases h
  |some T=>rw[hu]at h;cases T<;>simp only[reduceCtorEq]at h<;>exact⟨h,_,rfl,rfl⟩
theorem zeN {P:Program} {t:TypeId} {D:TypeDesc}(hu:P.underlying t=some D)(hD:qv D=true)(z:Array Value):kI P t (.agg z) z.toList:=by
 intro T hT
 obtain⟨i,_,h2,_⟩:=Zd hT
 rw[h2]at hu
 injection hu with hu
 rw[hu,if_pos hD]
def Wp:PV→Bool
 |.agg _=>true
 |_=>false
def ZT(P:Program)(t:TypeId):Option (Bool×List Kc):=
 match P.underlying t with
 |some .bool=>some (false,[.b])
 |some (.int k)=>some (false,[.i k])
 |some .string=>some (false,[.s])
 |_=>(ke P t).map fun k=>(true,k)
theorem jK {P:Program} {t:TypeId} {ag:Bool} {ks:List Kc}(h:ZT P t=some (ag,ks)):ZQ P 8 t=some ks∧∃T,P.underlying t=some T∧qv T=ag∧(ag=false→T=.bool∨(∃k,T=.int k)∨T=.string):=by
 unfold ZT at h
 split at h
 ·rename_i hu
  injection h with h;injection h with h1 h2;subst h1;subst h2
  exact⟨by simp[ZQ,hu],_,hu,rfl,fun _=>.inl rfl⟩
 ·rename_i k hu
  injection h with h;injection h with h1 h2;subst h1;subst h2
  exact⟨by simp[ZQ,hu],_,hu,rfl,fun _=>.inr (.inl ⟨k,rfl⟩)⟩
 ·rename_i hu
  injection h with h;injection h with h1 h2;subst h1;subst h2
  exact⟨by simp[ZQ,hu],_,hu,rfl,fun _=>.inr (.inr rfl)⟩
 ·rw[Option.map_eq_some_iff]at h
  obtain⟨k,hk,e⟩:=h
  injection e with h1 h2;subst h1;subst h2
  obtain⟨h3,T,h4,h5⟩:=za1 hk
  exact⟨h3,T,h4,h5,fun e=>by cases e⟩
theorem Wt {P:Program} {t e:TypeId} {n sz by_:Nat} {z:Option (List PV)} {T:Ty} {a:List Kc}(hT:ty P t=some ⟨.array n e,sz,by_,z⟩)(hg:P.eqGuardType P.depth t=false)(ha:ZQ P 7 e=some a)(he:ty P e=some T)(hl:T.size=a.length∧(qv T.desc || a.length==1)=true):
  ZT P t=some (true,(List.replicate n a).flatten):=by
 have hu:P.underlying t=some (.array n e):=(Zd hT).elim fun _ h=>h.2.1
 have h8:ZQ P 8 t=some (List.replicate n a).flatten:=by
  show(match P.underlying t with|some .bool=>_|some (.int k)=>_|some .string=>_|some (.struct fs)=>_|some (.array n e)=>_|_=>_)=_
  rw[hu]
  simp only[ha,he,hl,and_self,if_true]
 have h9:ke P t=some (List.replicate n a).flatten:=by
  unfold ke
  rw[hg,hu]
  simpa using h8
 unfold ZT
 rw[hu]
 simp only[h9,Option.map_some]
def Qf(ag:Bool)(kc:List Kc)(k:PV):Bool:=(Wp k==ag)&&okC kc k.cells
theorem zY {ag:Bool} {kc:List Kc} {k:PV}(h:Qf ag kc k=true):Wp k=ag∧okC kc k.cells=true:=by
 unfold Qf at h
 simp only[Bool.and_eq_true,beq_iff_eq]at h
 exact h
theorem jz {P:Program} {fr:Nat→Nat} {w:World} {t:TypeId} {ag:Bool} {kc:List Kc}(hk:ZT P t=some (ag,kc)) {k:PV}(ho:Qf ag kc k=true) {v:Value}(r:zk fr w k v):∃cs,zG fr w k.cells cs∧kI P t v cs∧(ag=true→v=.agg cs.toArray)∧(ag=false→cs=[v]):=by
 obtain⟨h8,T,hT,hA,_⟩:=jK hk
 obtain⟨h1,h2⟩:=zY ho
 cases ag with
 |true=>
  cases k<;>simp[Wp]at h1
  rename_i xs
  simp only[zk]at r
  obtain⟨vs,rfl,r⟩:=r
  exact⟨vs.toList,r,zeN hT hA vs,fun _=>rfl,fun e=>by cases e⟩
 |false=>
  have one:∀x:PV,x.cells=[x]→okC kc [x]=true→zk fr w x v→zG fr w [x] [v]:=fun x _ hx rx=>by
   simp only[zG]
   refine⟨v,[],rfl,?_,rx,rfl⟩
   refine zk.one (x:=x) ?_ rx
   cases x<;>first|rfl|(exfalso;cases kc with
    |nil=>simp[okC]at hx
    |cons q kc=>cases q<;>simp[okC]at hx)
  refine⟨[v],?_,?_,fun e=>(by cases e),fun _=>rfl⟩
  ·cases k<;>simp[Wp]at h1<;>exact one _ rfl h2 r
  ·intro T' hT'
   obtain⟨i,_,h3,_⟩:=Zd hT'
   rw[hT]at h3;injection h3 with h3
   rw[←h3,if_neg (by simp[hA])]
end Go.AM
end
section
namespace Go.AM
def qM(key:List PV):List PV→List PV→Nat→Option (Nat×PV)
 |k::ks,x::xs,i=>if eqC key k.cells then some (i,x)else qM key ks xs (i+1)
 |_,_,_=>none
theorem zgt {P:Program} {fr:Nat→Nat} {w:World} {kt:TypeId} {ag:Bool} {kc:List Kc}(hk:ZT P kt=some (ag,kc)) {k1 k2:PV}(h1:Qf ag kc k1=true)(h2:Qf ag kc k2=true) {u v:Value}(r1:zk fr w k1 u)(r2:zk fr w k2 v):
  (Op.equal kt u v).run P w=.ok (eqC k1.cells k2.cells) w:=by
 obtain⟨h8,_⟩:=jK hk
 obtain⟨cs,a1,a2,_⟩:=jz hk h1 r1
 obtain⟨ds,b1,b2,_⟩:=jz hk h2 r2
 exact Vu 9992 8 kt kc _ _ u v cs ds h8 (zY h1).2 (zY h2).2 a1 b1 a2 b2
def Found(fr:Nat→Nat)(w:World)(key:PV)(es:List MapEntry)(ks xs:List PV)(i:Nat)(r:Option (Nat×Value)):Prop:=
 (qM key.cells ks xs i=none∧r=none)∨∃j x v,qM key.cells ks xs i=some (j,x)∧r=some (j,v)∧zk fr w x v∧i≤j∧xs[j-i]?=some x∧∃e,es[j-i]?=some e∧∃k,ks[j-i]?=some k∧eqC key.cells k.cells=true
theorem Found.cons {fr:Nat→Nat} {w:World} {key:PV} {e:MapEntry} {es:List MapEntry} {k x:PV} {ks xs:List PV} {i:Nat} {r:Option (Nat×Value)}(hc:eqC key.cells k.cells=false)(h:Found fr w key es ks xs (i+1) r):Found fr w key (e::es) (k::ks) (x::xs) i r:=by
 unfold Found
 simp only[qM,hc,Bool.false_eq_true,if_false]
 refine h.imp id ?_
 rintro⟨j,y,v,a1,a2,a3,a4,a5,e',a6,k',a7,a8⟩
 have hj:j-i=(j- (i+1))+1:=by omega
 exact⟨j,y,v,a1,a2,a3,by omega,by rw[hj];simpa using a5,e',by rw[hj];simpa using a6,k',by rw[hj];simpa using a7,a8⟩
theorem Found.here {fr:Nat→Nat} {w:World} {key:PV} {e:MapEntry} {es:List MapEntry} {k x:PV} {ks xs:List PV} {i:Nat}(hc:eqC key.cells k.cells=true)(h:zk fr w x e.val):Found fr w key (e::es) (k::ks) (x::xs) i (some (i,e.val)):=by
 unfold Found
 simp only[qM,hc,if_true]
 exact .inr ⟨i,x,e.val,rfl,rfl,h,Nat.le_refl _,by simp,e,by simp,k,by simp,hc⟩
theorem Found.none {fr:Nat→Nat} {w:World} {key:PV} {ks xs:List PV} {i:Nat}(rk:qU fr w ks (([]:List MapEntry).map (·.key))):Found fr w key [] ks xs i none:=by
 cases ks with
 |nil=>exact .inl ⟨by simp[qM],rfl⟩
 |cons k ks=>simp only[List.map_nil,qU]at rk;obtain⟨_,_,e,_⟩:=rk;cases e
theorem uO {fr:Nat→Nat} {w:World} {l:List PV} {v:Value} {vs:List Value}(r:qU fr w l (v::vs)):∃x l',l=x::l'∧zk fr w x v∧qU fr w l' vs:=by
 cases l with
 |nil=>simp only[qU]at r;cases r
 |cons x l=>
  simp only[qU]at r
  obtain⟨u,us,e,h1,h2⟩:=r
  injection e with e1 e2;subst e1;subst e2
  exact⟨x,l,rfl,h1,h2⟩
theorem xW {P:Program} {fr:Nat→Nat} {w:World} {kt:TypeId} {ag:Bool} {kc:List Kc}(hk:ZT P kt=some (ag,kc)) {key:PV} {u:Value}(h1:Qf ag kc key=true)(r1:zk fr w key u):
  ∀{es:List MapEntry} {ks xs:List PV} (i:Nat),ks.all (Qf ag kc)=true→qU fr w ks (es.map (·.key))→qU fr w xs (es.map (·.val))→
   ∃r,(Instr.findAsking kt u es i).run P w=.ok r w∧Found fr w key es ks xs i r
 | [],ks,xs,i,_,rk,rx=>⟨none,rfl,Found.none rk⟩
 |e::es,ks,xs,i,ho,rk,rx=>by
  simp only[List.map_cons]at rk rx
  obtain⟨k,ks,rfl,rk1,rk2⟩:=uO rk
  obtain⟨x,xs,rfl,rx1,rx2⟩:=uO rx
  simp only[List.all_cons,Bool.and_eq_true]at ho
  have he:=zgt (P:=P) hk h1 ho.1 r1 rk1
  unfold Instr.findAsking
  simp only[Sem.run_bind,he,Result.andThen_ok]
  cases hc:eqC key.cells k.cells with
  |true=>exact⟨some (i,e.val),rfl,Found.here hc rx1⟩
  |false=>
   obtain⟨r,hr,h⟩:=xW hk h1 r1 (es:=es) (ks:=ks) (xs:=xs) (i+1) ho.2 rk2 rx2
   exact⟨r,hr,Found.cons hc h⟩
theorem zcS {T:TypeDesc}(h:qv T=true)(u v:Value):Instr.sameNow T u v=none:=by
 cases T<;>simp[qv]at h<;>rfl
theorem zdA {P:Program} {fr:Nat→Nat} {w:World} {kt:TypeId} {kc:List Kc} {T:TypeDesc}(hk:ZT P kt=some (false,kc))(hT:P.underlying kt=some T) {k1 k2:PV}(h1:Qf false kc k1=true)(h2:Qf false kc k2=true) {u v:Value}(r1:zk fr w k1 u)(r2:zk fr w k2 v):
  Instr.sameNow T u v=some (eqC k1.cells k2.cells):=by
 have b1:=(zY h1).2
 have b2:=(zY h2).2
 have a1:=(zY h1).1
 have a2:=(zY h2).1
 unfold ZT at hk
 rw[hT]at hk
 split at hk
 ·rename_i e;injection e with e;subst e
  injection hk with hk;injection hk with _ hk;subst hk
  cases k1<;>simp[Wp,PV.cells,okC]at a1 b1
  cases k2<;>simp[Wp,PV.cells,okC]at a2 b2
  simp only[zk]at r1 r2
  subst r1;subst r2
  simp[Instr.sameNow,PV.cells,eqC]
 ·rename_i k e;injection e with e;subst e
  injection hk with hk;injection hk with _ hk;subst hk
  cases k1<;>simp[Wp,PV.cells,okC]at a1 b1
  cases k2<;>simp[Wp,PV.cells,okC]at a2 b2
  subst b1;subst b2
  simp only[zk]at r1 r2
  subst r1;subst r2
  simp[Instr.sameNow,PV.cells,eqC,KS]
 ·rename_i e;injection e with e;subst e
  injection hk with hk;injection hk with _ hk;subst hk
  cases k1<;>simp[Wp,PV.cells,okC]at a1 b1
  cases k2<;>simp[Wp,PV.cells,okC]at a2 b2
  simp only[zk]at r1 r2
  subst r1;subst r2
  rename_i p q
  have:((⟨p.toArray⟩:ByteArray)==⟨q.toArray⟩)=decide (p=q):=by
   rw[beq_toListBytes,KS]
   simp[ByteArray.toList_eq]
  simp[Instr.sameNow,PV.cells,eqC,this]
 ·rw[Option.map_eq_some_iff]at hk
  obtain⟨_,_,e⟩:=hk
  cases e
theorem Wl {P:Program} {fr:Nat→Nat} {w:World} {kt:TypeId} {kc:List Kc} {T:TypeDesc}(hk:ZT P kt=some (false,kc))(hT:P.underlying kt=some T) {key:PV} {u:Value}(h1:Qf false kc key=true)(r1:zk fr w key u):
  ∀{es:List MapEntry} {ks xs:List PV} (i:Nat),ks.all (Qf false kc)=true→qU fr w ks (es.map (·.key))→qU fr w xs (es.map (·.val))→
   ∃r,Instr.findNow T u es i=some r∧Found fr w key es ks xs i r
 | [],ks,xs,i,_,rk,rx=>⟨none,rfl,Found.none rk⟩
 |e::es,ks,xs,i,ho,rk,rx=>by
  simp only[List.map_cons]at rk rx
  obtain⟨k,ks,rfl,rk1,rk2⟩:=uO rk
  obtain⟨x,xs,rfl,rx1,rx2⟩:=uO rx
  simp only[List.all_cons,Bool.and_eq_true]at ho
  have he:=zdA (P:=P) hk hT h1 ho.1 r1 rk1
  unfold Instr.findNow
  rw[he]
  cases hc:eqC key.cells k.cells with
  |true=>exact⟨some (i,e.val),rfl,Found.here hc rx1⟩
  |false=>
   obtain⟨r,hr,h⟩:=Wl hk hT h1 r1 (es:=es) (ks:=ks) (xs:=xs) (i+1) ho.2 rk2 rx2
   exact⟨r,hr,Found.cons hc h⟩
theorem kL {P:Program} {fr:Nat→Nat} {w:World} {kt:TypeId} {ag:Bool} {kc:List Kc}(hk:ZT P kt=some (ag,kc)) {key:PV} {u:Value}(h1:Qf ag kc key=true)(r1:zk fr w key u)
  {es:List MapEntry} {ks xs:List PV} (ho:ks.all (Qf ag kc)=true) (rk:qU fr w ks (es.map (·.key))) (rx:qU fr w xs (es.map (·.val))):
   ∃r,(Instr.findKey kt u es).run P w=.ok r w∧Found fr w key es ks xs 0 r:=by
 obtain⟨h8,T,hT,hA,_⟩:=jK hk
 unfold Instr.findKey
 simp only[Sem.run_bind,run_underlying hT,Result.andThen_ok]
 cases es with
 |nil=>exact⟨none,by simp[Instr.findNow],Found.none rk⟩
 |cons e es=>
  cases ag with
  |true=>
   have hn:Instr.findNow T u (e::es) 0=none:=by simp[Instr.findNow,zcS hA]
   rw[hn]
   exact xW (P:=P) hk h1 r1 (es:=e::es) 0 ho rk rx
  |false=>
   obtain⟨r,hr,h⟩:=Wl (P:=P) hk hT h1 r1 (es:=e::es) 0 ho rk rx
   rw[hr]
   exact⟨r,rfl,h⟩
def mapOf:AV→Option (List PV×List PV)
 |.p (.mp ks xs)=>some (ks,xs)
 |.om _ ks xs=>some (ks,xs)
 |.p (.opq (.map none))=>some ([],[])
 |_=>none
theorem zeK {g:Gh} {w:World} {x:AV} {v:Value} {ks xs:List PV}(h:mapOf x=some (ks,xs))(r:zd g w x v):
  (v=.map none∧ks=[]∧xs=[])∨∃b arr c,v=.map (some b)∧w.heap[b]?=some (.map arr c)∧qU g.fr w ks (arr.toList.map (·.key))∧qU g.fr w xs (arr.toList.map (·.val)):=by
 have at_:∀{b:Nat} {arr:Array MapEntry} {c:Nat},Q2 w b=some (arr,c)→w.heap[b]?=some (.map arr c):=by
  intro b arr c h
  exact(jH h).1
 unfold mapOf at h
 split at h
 ·injection h with h;injection h with h1 h2;subst h1;subst h2
  simp only[zd,zk]at r
  obtain⟨b,arr,c,e,_,hm,r1,r2⟩:=r
  exact .inr ⟨b,arr,c,e,at_ hm,r1,r2⟩
 ·injection h with h;injection h with h1 h2;subst h1;subst h2
  simp only[zd]at r
  obtain⟨b,arr,c,e,_,_,hm,r1,r2⟩:=r
  exact .inr ⟨b,arr,c,e,at_ hm,r1,r2⟩
 ·injection h with h;injection h with h1 h2;subst h1;subst h2
  simp only[zd,zk]at r
  exact .inl ⟨r,rfl,rfl⟩
 ·cases h
def jv(z:PV):Option (Nat×PV)→PV
 |some (_,x)=>x
 |none=>z
def Zx(P:Program)(T:TypeId)(x k:AV)(ok:Bool):PR:=
 match ty P T with
 |some ⟨.map kt et,_,_,_⟩=>
  match ZT P kt,Jz P et,k,mapOf x with
  |some (ag,kc),some z,.p key,some (ks,xs)=>
   ((Qf ag kc key=true∧ks.all (Qf ag kc)=true),if ok then .tup [.p (jv z (qM key.cells ks xs 0)),.p (.bool (qM key.cells ks xs 0).isSome)]else .p (jv z (qM key.cells ks xs 0)))
  |_,_,_,_=>bad
 |_=>bad
theorem Xk {P:Program} {T:TypeId} {x k:AV} {ok:Bool} {g:Gh} {w:World} {v u:Value}(h:(Zx P T x k ok).1)(rx:zd g w x v)(rk:zd g w k u):
  ∃r,(Instr.lookup T v u ok).run P w=.ok r w∧zd g w (Zx P T x k ok).2 r:=by
 unfold Zx at h⊢
 split at h
 ·rename_i kt et sz by_ ze hT
  have hu:=zw w hT
  simp only[]at hu
  split at h
  ·rename_i ag kc z key ks xs hk hz hm
   simp only[zd]at rk
   obtain⟨h8,_⟩:=jK hk
   obtain⟨cs,a1,a2,_⟩:=jz hk h.1 rk
   obtain⟨zv,hz1,hz2⟩:=zau hz g.fr w
   have fin:∀(y:Value) (b:Bool),zk g.fr w (jv z (qM key.cells ks xs 0)) y→b=(qM key.cells ks xs 0).isSome→zd g w (if ok then AV.tup [.p (jv z (qM key.cells ks xs 0)),.p (.bool (qM key.cells ks xs 0).isSome)]else .p (jv z (qM key.cells ks xs 0))) (if ok then .tuple #[y,.bool b]else y):=by
    intro y b hy hb
    subst hb
    cases ok
    ·simp only[Bool.false_eq_true,if_false,zd];exact hy
    ·simp only[if_true,zd,zt]
     exact⟨_,rfl,y,[.bool _],rfl,hy,.bool _,[],rfl,by simp only[zk],rfl⟩
   have hck:∀em,(Instr.checkKey em 10000 kt u).run P w=.ok () w:=fun em=>x8 em 9992 8 kt kc _ u cs h8 (zY h.1).2 a1 a2
   rcases zeK hm rx with ⟨rfl,rfl,rfl⟩|⟨b,arr,c,rfl,hb,r1,r2⟩
   ·obtain⟨r,hr,hf⟩:=kL (P:=P) (es:=[]) (ks:=[]) (xs:=[]) hk h.1 rk h.2 (by simp[qU]) (by simp[qU])
    rcases hf with ⟨hf,rfl⟩|⟨j,y,yv,hf,_⟩
    ·refine⟨_,?_,fin zv false (by rw[hf];exact hz2) (by rw[hf];rfl)⟩
     unfold Instr.lookup
     simp only[Sem.run_bind,hu,Result.andThen_ok,Sem.run_pure,hck,hr,hz1]
    ·simp[qM]at hf
   ·obtain⟨r,hr,hf⟩:=kL (P:=P) hk h.1 rk h.2 r1 r2
    rcases hf with ⟨hf,rfl⟩|⟨j,y,yv,hf,rfl,hy,_⟩
    ·refine⟨_,?_,fin zv false (by rw[hf];exact hz2) (by rw[hf];rfl)⟩
     unfold Instr.lookup
     simp only[Sem.run_bind,hu,Result.andThen_ok,Sem.run_pure,MapKept.run_getObj_map hb,hck,hr,hz1]
    ·refine⟨_,?_,fin yv true (by rw[hf];exact hy) (by rw[hf];rfl)⟩
     unfold Instr.lookup
     simp only[Sem.run_bind,hu,Result.andThen_ok,Sem.run_pure,MapKept.run_getObj_map hb,hck,hr]
  ·exact h.elim
 ·exact h.elim
def Y2:AV→Option Bool
 |.p (.mp _ _)=>some false
 |.om _ _ _=>some false
 |.p (.opq (.map none))=>some true
 |_=>none
theorem zb3 {g:Gh} {w:World} {x:AV} {v:Value} {b:Bool}(h:Y2 x=some b)(r:zd g w x v):∃p:Option Nat,v=.map p∧p.isNone=b:=by
 unfold Y2 at h
 split at h
 ·injection h with h;subst h
  simp only[zd,zk]at r;obtain⟨b,_,_,e,_⟩:=r;exact⟨_,e,rfl⟩
 ·injection h with h;subst h
  simp only[zd]at r;obtain⟨b,_,_,e,_⟩:=r;exact⟨_,e,rfl⟩
 ·injection h with h;subst h
  simp only[zd,zk]at r;exact⟨_,r,rfl⟩
 ·cases h
def zh6(P:Program)(op:BinOp)(t:TypeId)(x:AV):PR:=
 match ty P t with
 |some ⟨.map _ _,_,_,_⟩=>
  match Y2 x,op with
  |some b,.eql=>(True,.p (.bool b))
  |some b,.neq=>(True,.p (.bool (!b)))
  |_,_=>bad
 |_=>bad
def Vx:AV→Bool
 |.p (.opq (.map none))=>true
 |_=>false
def zdo:AV→Option Bool
 |.p (.opq (.slice none 0 0))=>some true
 |.p (.sl _ (_::_))=>some false
 |.os _ _ (_::_)=>some false
 |.la _ _ _ _=>some false
 |_=>none
theorem zdZ {g:Gh} {w:World} {x:AV} {v:Value} {b:Bool}(h:zdo x=some b)(r:zd g w x v):∃p l c,v=.slice p l c∧p.isNone=b:=by
 have key:∀(fr:Nat→Nat) (z:Nat) (e:PV) (es:List PV),zk fr w (.sl z (e::es)) v→∃p l c,v=.slice p l c∧p.isNone=false:=fun fr z e es r=>by
  simp only[zk]at r
  rcases r with ⟨h,_⟩|⟨_,_,_,rfl,_⟩
  ·cases h
  ·exact⟨_,_,_,rfl,rfl⟩
 unfold zdo at h
 split at h
 ·injection h with h;subst h
  simp only[zd,zk]at r;exact⟨_,_,_,r,rfl⟩
 ·injection h with h;subst h
  simp only[zd]at r;exact key _ _ _ _ r
 ·injection h with h;subst h
  simp only[zd]at r;exact key _ _ _ _ r.1
 ·injection h with h;subst h
  simp only[zd]at r;obtain⟨_,_,_,_,e,_⟩:=r;exact⟨_,_,_,e,rfl⟩
 ·cases h
def zi1(P:Program)(op:BinOp)(t:TypeId)(x:AV):PR:=
 match ty P t with
 |some ⟨.slice _,_,_,_⟩=>
  match zdo x,op with
  |some b,.eql=>(True,.p (.bool b))
  |some b,.neq=>(True,.p (.bool (!b)))
  |_,_=>bad
 |_=>bad
def W8:AV→Bool
 |.p (.opq (.slice none 0 0))=>true
 |_=>false
def zjj(P:Program)(op:BinOp)(t:TypeId)(x y:AV):PR:=if Vx y then zh6 P op t x else if W8 y then zi1 P op t x else zjC P op t x y
theorem zd1 {P : Program} {op : BinOp} {t : TypeId} {x y : AV} {g : Gh} {w : World} {u v : Value} (xo yo : Operand) (h : (zjj P op t x y).1)
    (hx : zd g w x u) (hy : zd g w y v) :
    ∃ r, (do eqGuard op t xo yo u v; binOp op t u v : Sem Value).run P w = .ok r w ∧ zd g w (zjj P op t x y).2 r := by
  unfold zjj at h ⊢
  by_cases hn : Vx y = true
  · rw [if_pos hn] at h ⊢
    unfold Vx at hn
    split at hn
    · simp only [zd, zk] at hy
      subst hy
      unfold zh6 at h ⊢
      split at h
      · rename_i kt et _ _ _ hT
        have hu : P.underlying t = some (.map kt et) := by obtain ⟨_, _, hu, _⟩ := Zd hT; exact hu
        cases hm : Y2 x with
        | none => rw [hm] at h; exact h.elim
        | some b =>
          rw [hm] at h
          obtain ⟨p, rfl, hp⟩ := zb3 hm hx
          have e00 : ∀ d, (Op.equalIn (d + 1) t (.map p) (.map none)).run P w = .ok p.isNone w := fun d => by
            cases p <;> simp [Op.equalIn, run_underlying hu]
          have e0 : (Op.equal t (.map p) (.map none)).run P w = .ok p.isNone w := e00 9999
          have e1 : binOp .eql t (.map p) (.map none) = (do let c ← Op.equal t (.map p) (.map none); pure (.bool c)) := by cases p <;> rfl
          have e2 : binOp .neq t (.map p) (.map none) = (do let c ← Op.equal t (.map p) (.map none); pure (.bool (!c))) := by cases p <;> rfl
          cases op <;> simp only [] at h ⊢ <;> first
            | exact h.elim
            | (refine ⟨.bool b, ?_, by simp only [zd, zk]⟩
               rw [Sem.run_bind, j6 (by simp) (by simp), Result.andThen_ok, e1, Sem.run_bind, e0, hp]; rfl)
            | (refine ⟨.bool (!b), ?_, by simp only [zd, zk]⟩
               rw [Sem.run_bind, j6 (by simp) (by simp), Result.andThen_ok, e2, Sem.run_bind, e0, hp]; rfl)
      · exact h.elim
    · cases hn
  · rw [if_neg hn] at h ⊢
    by_cases hs : W8 y = true
    · rw [if_pos hs] at h ⊢
      unfold W8 at hs
      split at hs
      · simp only [zd, zk] at hy
        subst hy
        unfold zi1 at h ⊢
        split at h
        · rename_i et _ _ _ hT
          have hu : P.underlying t = some (.slice et) := by obtain ⟨_, _, hu, _⟩ := Zd hT; exact hu
          cases hm : zdo x with
          | none => rw [hm] at h; exact h.elim
          | some b =>
            rw [hm] at h
            obtain ⟨p, l, c, rfl, hp⟩ := zdZ hm hx
            have e00 : ∀ d, (Op.equalIn (d + 1) t (.slice p l c) (.slice none 0 0)).run P w = .ok p.isNone w := fun d => by
              cases p <;> simp [Op.equalIn, run_underlying hu]
            have e0 : (Op.equal t (.slice p l c) (.slice none 0 0)).run P w = .ok p.isNone w := e00 9999
            have e1 : binOp .eql t (.slice p l c) (.slice none 0 0) = (do let c ← Op.equal t (.slice p l c) (.slice none 0 0); pure (.bool c)) := by cases p <;> rfl
            have e2 : binOp .neq t (.slice p l c) (.slice none 0 0) = (do let c ← Op.equal t (.slice p l c) (.slice none 0 0); pure (.bool (!c))) := by cases p <;> rfl
            cases op <;> simp only [] at h ⊢ <;> first
              | exact h.elim
              | (refine ⟨.bool b, ?_, by simp only [zd, zk]⟩
                 rw [Sem.run_bind, j6 (by simp) (by simp), Result.andThen_ok, e1, Sem.run_bind, e0, hp]; rfl)
              | (refine ⟨.bool (!b), ?_, by simp only [zd, zk]⟩
                 rw [Sem.run_bind, j6 (by simp) (by simp), Result.andThen_ok, e2, Sem.run_bind, e0, hp]; rfl)
        · exact h.elim
      · cases hs
    · rw [if_neg hs] at h ⊢
      exact zfb xo yo h hx hy
def zfI:AV→Option Bool
 |.p (.opq .nilIface)=>some true
 |.p (.opq (.iface _ _))=>some false
 |_=>none
def zcL(P:Program)(op:BinOp)(t:TypeId)(x:AV):PR:=
 match ty P t with
 |some ⟨.interface _,_,_,_⟩=>
  match zfI x,op with
  |some b,.eql=>(True,.p (.bool b))
  |some b,.neq=>(True,.p (.bool (!b)))
  |_,_=>bad
 |_=>bad
def zbw:Operand→Bool
 |.const .nilIface=>true
 |_=>false
def zgQ(P:Program)(op:BinOp)(t:TypeId)(yo:Operand)(x y:AV):PR:=if zbw yo then zcL P op t x else zjj P op t x y
theorem zdQ {P : Program} {op : BinOp} {t : TypeId} {x : AV} {g : Gh} {w : World} {u : Value} (xo : Operand) (h : (zcL P op t x).1) (hx : zd g w x u) :
    ∃ r, (do eqGuard op t xo (.const .nilIface) u .nilIface; binOp op t u .nilIface : Sem Value).run P w = .ok r w ∧ zd g w (zcL P op t x).2 r := by
  unfold zcL at h ⊢
  split at h
  · rename_i ms _ _ _ hT
    have hu : P.underlying t = some (.interface ms) := by obtain ⟨_, _, hu, _⟩ := Zd hT; exact hu
    cases hm : zfI x with
    | none => rw [hm] at h; exact h.elim
    | some b =>
      rw [hm] at h
      have hq : (eqGuard op t xo (.const .nilIface) u .nilIface).run P w = .ok () w ∧ (∀ d, (Op.equalIn (d + 1) t u .nilIface).run P w = .ok b w) ∧ ((binOp .eql t u .nilIface) = (do let c ← Op.equal t u .nilIface; pure (.bool c))) ∧ ((binOp .neq t u .nilIface) = (do let c ← Op.equal t u .nilIface; pure (.bool (!c)))) := by
        unfold zfI at hm
        split at hm
        · injection hm with hm; subst hm
          simp only [zd, zk] at hx
          subst hx
          refine ⟨by cases op <;> cases xo <;> rfl, fun d => by simp [Op.equalIn, run_underlying hu], rfl, rfl⟩
        · injection hm with hm; subst hm
          simp only [zd, zk] at hx
          subst hx
          refine ⟨by cases op <;> rfl, fun d => by simp [Op.equalIn, run_underlying hu], rfl, rfl⟩
        · cases hm
      obtain ⟨h1, h2, h3, h4⟩ := hq
      have h2' : (Op.equal t u .nilIface).run P w = .ok b w := h2 9999
      cases op <;> simp only [] at h ⊢ <;> first
        | exact h.elim
        | (refine ⟨.bool b, ?_, by simp only [zd, zk]⟩
           rw [Sem.run_bind, h1, Result.andThen_ok, h3, Sem.run_bind, h2']; rfl)
        | (refine ⟨.bool (!b), ?_, by simp only [zd, zk]⟩
           rw [Sem.run_bind, h1, Result.andThen_ok, h4, Sem.run_bind, h2']; rfl)
  · exact h.elim
theorem Jq {P:Program} {op:BinOp} {t:TypeId} {x y:AV} {g:Gh} {w:World} {u v:Value} {yo:Operand}(xo:Operand)(hv:∀c,yo=.const c→v=c)(h:(zgQ P op t yo x y).1)
  (hx:zd g w x u) (hy:zd g w y v):
  ∃r,(do eqGuard op t xo yo u v;binOp op t u v:Sem Value).run P w=.ok r w∧zd g w (zgQ P op t yo x y).2 r:=by
 unfold zgQ at h⊢
 by_cases hn:zbw yo=true
 ·rw[if_pos hn]at h⊢
  unfold zbw at hn
  split at hn
  ·have:=hv _ rfl
   subst this
   exact zdQ xo h hx
  ·cases hn
 ·rw[if_neg hn]at h⊢
  exact zd1 xo yo h hx hy
end Go.AM
end
