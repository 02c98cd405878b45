/- A part of the proof of this seat's statements, by an abstract machine: what each operation does to values, and what the law's functions compute. Conditions: as each law says. -/
import Derived.Test.YtjefahhmkcfiiaaGreatN01
section
namespace Go.AM
def PV.cells:PV→List PV
 |.agg cs=>cs
 |x=>[x]
def PV.one:PV→Bool
 |.agg _=>false
 |.opq u=>u.oneCell'
 |_=>true
def PV.fits:PV→Bool
 |.opq u=>u.oneCell'
 |_=>true
theorem zk.one {fr:Nat→Nat} {w:World} {x:PV} {v:Value}(h:x.one=true)(r:zk fr w x v):v.oneCell'=true:=by
 cases x with
 |agg cs=>cases h
 |opq u=>simp only[zk]at r;subst r;exact h
 |sl z es=>simp only[zk]at r;rcases r with ⟨_,_,_,rfl⟩|⟨b,o,cap,rfl,_⟩<;>rfl
 |mp ks xs=>simp only[zk]at r;obtain⟨b,arr,c,rfl,_⟩:=r;rfl
 |pt z e=>simp only[zk]at r;obtain⟨b,o,rfl,_⟩:=r;rfl
 |_=>simp only[zk]at r;subst r;rfl
section
variable {fr:Nat→Nat} {w:World}
theorem zG.length:∀{cs:List PV} {vs:List Value},zG fr w cs vs→vs.length=cs.length
 | [],vs,r=>by simp only[zG]at r;subst r;rfl
 |c::cs,vs,r=>by simp only[zG]at r;obtain⟨v,vs',rfl,_,_,r⟩:=r;simp[zG.length r]
theorem zG.get:∀{cs:List PV} {vs:List Value},zG fr w cs vs→∀{i:Nat} {x:PV},cs[i]?=some x→∃v,vs[i]?=some v∧v.oneCell'=true∧zk fr w x v
 | [],vs,r,i,x,h=>by simp at h
 |c::cs,vs,r,i,x,h=>by
  simp only[zG]at r
  obtain⟨v,vs',rfl,h1,h2,r⟩:=r
  cases i with
  |zero=>simp at h;subst h;exact⟨v,by simp,h1,h2⟩
  |succ i=>simpa using zG.get r (i:=i) (x:=x) (by simpa using h)
theorem zG.take:∀{cs:List PV} {vs:List Value} (n:Nat),zG fr w cs vs→zG fr w (cs.take n) (vs.take n)
 | [],vs,n,r=>by simp only[zG]at r;subst r;simp[zG]
 |c::cs,vs,0,r=>by simp[zG]
 |c::cs,vs,n+1,r=>by
  simp only[zG]at r
  obtain⟨v,vs',rfl,h1,h2,r⟩:=r
  simp only[List.take_succ_cons,zG]
  exact⟨v,_,rfl,h1,h2,r.take n⟩
theorem zG.drop:∀{cs:List PV} {vs:List Value} (n:Nat),zG fr w cs vs→zG fr w (cs.drop n) (vs.drop n)
 | [],vs,n,r=>by simp only[zG]at r;subst r;simp[zG]
 |c::cs,vs,0,r=>by simpa using r
 |c::cs,vs,n+1,r=>by
  simp only[zG]at r
  obtain⟨v,vs',rfl,h1,h2,r⟩:=r
  simpa using r.drop n
theorem zG.append:∀{cs ds:List PV} {vs us:List Value},zG fr w cs vs→zG fr w ds us→zG fr w (cs++ds) (vs++us)
 | [],ds,vs,us,r,r'=>by simp only[zG]at r;subst r;simpa using r'
 |c::cs,ds,vs,us,r,r'=>by
  simp only[zG]at r
  obtain⟨v,vs',rfl,h1,h2,r⟩:=r
  simp only[List.cons_append,zG]
  exact⟨v,_,rfl,h1,h2,r.append r'⟩
theorem zG.of_map:∀{cs:List PV} {vs:List Value},vs.map yz=cs→cs.all PV.one=true→zG fr w cs vs
 |_,[],h,_=>by simp at h;subst h;simp[zG]
 |_,v::vs,h,h1=>by
  simp only[List.map_cons]at h
  subst h
  simp only[List.all_cons,Bool.and_eq_true]at h1
  simp only[zG]
  exact⟨v,vs,rfl,zk.one h1.1 (zk.yz v:zk fr w _ v),zk.yz v,zG.of_map rfl h1.2⟩
theorem zk.cells {x:PV} {v:Value}(h:x.fits=true)(r:zk fr w x v):zG fr w x.cells v.cells.toList:=by
 cases x with
 |agg cs=>simp only[zk]at r;obtain⟨vs,rfl,r⟩:=r;exact r
 |opq u=>
  simp only[zk]at r;subst r
  have hc:v.cells.toList=[v]:=by cases v<;>first|rfl|cases h
  rw[hc];simp only[PV.cells,zG];exact⟨v,[],rfl,h,by simp only[zk],rfl⟩
 |sl z es=>
  have h1:=zk.one (x:=.sl z es) rfl r
  have hc:v.cells.toList=[v]:=by cases v<;>first|rfl|cases h1
  rw[hc];simp only[PV.cells,zG];exact⟨v,[],rfl,h1,r,rfl⟩
 |mp ks xs=>
  have h1:=zk.one (x:=.mp ks xs) rfl r
  have hc:v.cells.toList=[v]:=by cases v<;>first|rfl|cases h1
  rw[hc];simp only[PV.cells,zG];exact⟨v,[],rfl,h1,r,rfl⟩
 |pt z e=>
  have h1:=zk.one (x:=.pt z e) rfl r
  have hc:v.cells.toList=[v]:=by cases v<;>first|rfl|cases h1
  rw[hc];simp only[PV.cells,zG];exact⟨v,[],rfl,h1,r,rfl⟩
 |int k n=>simp only[zk]at r;subst r;simp only[PV.cells,zG];exact⟨_,[],rfl,rfl,by simp only[zk],rfl⟩
 |bool k=>simp only[zk]at r;subst r;simp only[PV.cells,zG];exact⟨_,[],rfl,rfl,by simp only[zk],rfl⟩
 |str k=>simp only[zk]at r;subst r;simp only[PV.cells,zG];exact⟨_,[],rfl,rfl,by simp only[zk],rfl⟩
def Wc(agg:Bool)(size:Nat)(cs:List PV)(off:Nat):PR:=
 if agg then(off+size≤cs.length,.p (.agg ((cs.drop off).take size)))
 else match cs[off]? with
  |some x=>(True,.p x)
  |none=>bad
theorem KA {P:Program} {g:Gh} {t:TypeId} {T:Ty}(hT:ty P t=some T) {cs:List PV} {vs:Array Value} {off:Nat}(h:(Wc (qv T.desc) T.size cs off).1)
  (r:zG g.fr w cs vs.toList):∃v,(part t vs off).run P w=.ok v w∧zd g w (Wc (qv T.desc) T.size cs off).2 v:=by
 unfold Wc at h⊢
 have hl:=zG.length r
 unfold part
 rw[Sem.run_bind,wy w hT]
 cases hA:qv T.desc with
 |true=>
  simp only[hA,if_true]at h⊢
  refine⟨.agg (vs.extract off (off+T.size)),?_,?_⟩
  ·simp[qE w hT]
  ·simp only[zd,zk]
   refine⟨_,rfl,?_⟩
   have:(vs.extract off (off+T.size)).toList=(vs.toList.drop off).take T.size:=by
    simp
   rw[this]
   exact(r.drop off).take T.size
 |false=>
  simp only[hA]at h⊢
  cases hx:cs[off]? with
  |none=>simp only[hx]at h;exact h.elim
  |some x=>
   obtain⟨v,hv,h1,hr⟩:=r.get hx
   refine⟨v,?_,by simp only;exact hr⟩
   have:vs[off]?=some v:=by simpa using hv
   simp[this]
end
def jF(P:Program)(T:TypeId)(x:AV)(f:Nat):PR:=
 match ty P T with
 |some ⟨.struct fs,_,_,_⟩=>
  match fs[f]? with
  |some fd=>
   match ty P fd.type with
   |some ft=>
    if ft.size=0 then bad else
    match x with
    |.lp t o=>(True,.lp t (o+fd.offset))
    |.ip z e o=>(True,.ip z e (o+fd.offset))
    |_=>bad
   |none=>bad
  |none=>bad
 |_=>bad
theorem qy(b o n:Nat):(⟨b,o,none⟩:Addr).add n=⟨b,o+n,none⟩:=by unfold Addr.add;split<;>simp_all
theorem Uw {P:Program} {T:TypeId} {x:AV} {f:Nat} {g:Gh} {w:World} {v:Value}(h:(jF P T x f).1)(r:zd g w x v):
  ∃u,(Instr.fieldAt T v f).run P w=.ok u w∧zd g w (jF P T x f).2 u:=by
 unfold jF at h⊢
 split at h
 ·rename_i fs sz by_ ze hT
  have hu:=zw w hT
  simp only[]at hu⊢
  cases hf:fs[f]? with
  |none=>simp only[hf]at h;exact h.elim
  |some fd=>
   simp only[hf]at h⊢
   cases hft:ty P fd.type with
   |none=>simp only[hft]at h;exact h.elim
   |some ft=>
    simp only[hft]at h⊢
    split at h
    ·exact h.elim
    ·rename_i hz
     simp only[hz,if_false]
     have hs:=qE w hft
     have step:∀b o,v=.pointer (some ⟨b,o,none⟩)→(Instr.fieldAt T v f).run P w=.ok (.pointer (some ⟨b,o+fd.offset,none⟩)) w:=by
      intro b o e
      subst e
      unfold Instr.fieldAt
      rw[Sem.run_bind,hu]
      simp[hf,Instr.sureAddr,fieldPlace,hs,hz,qy]
     split at h
     ·rename_i t o
      simp only[zd]at r⊢
      obtain⟨b,hk,e⟩:=r
      exact⟨_,step b o e,b,hk,rfl⟩
     ·rename_i z e o
      simp only[zd]at r⊢
      obtain⟨b,base,e',hf,he⟩:=r
      exact⟨_,step b _ e',b,base,by rw[Nat.add_assoc],hf,he⟩
     ·exact h.elim
 ·exact h.elim
def elemAt(es:List PV)(n:Nat):PV:=es.getD n default
def jB(P:Program)(T:TypeId)(x i:AV):PR:=
 match ty P T,i with
 |some ⟨.slice e,_,_,_⟩,.p (.int _ n)=>
  match ty P e,x with
  |some et,.p (.sl z es)=>(z=et.size∧0≤n∧n<es.length,.ip z (elemAt es n.toNat) 0)
  |some et,.os _ z es=>(z=et.size∧0≤n∧n<es.length,.ip z (elemAt es n.toNat) 0)
  |some et,.la t z o m=>(z=et.size∧0≤n∧n<m,.lp t (o+n.toNat*z))
  |_,_=>bad
 |some ⟨.array len e,_,_,_⟩,.p (.int _ n)=>
  match ty P e,x with
  |some et,.lp t o=>(0≤n∧n<len,.lp t (o+n.toNat*et.size))
  |some et,.ip z e o=>(0≤n∧n<len,.ip z e (o+n.toNat*et.size))
  |_,_=>bad
 |_,_=>bad
theorem UJ {P:Program} {T:TypeId} {x i:AV} {g:Gh} {w:World} {v iv:Value}(h:(jB P T x i).1)(r:zd g w x v)(ri:zd g w i iv):
  ∃u,(Instr.indexAt T v iv).run P w=.ok u w∧zd g w (jB P T x i).2 u:=by
 unfold jB at h⊢
 split at h
 ·rename_i e sz by_ ze k n hT
  have hu:=zw w hT
  simp only[zd,zk]at ri hu⊢
  subst ri
  cases het:ty P e with
  |none=>simp only[het]at h;exact h.elim
  |some et=>
   simp only[het]at h⊢
   have hs:=qE w het
   have step:∀b o len cap,v=.slice (some ⟨b,o,none⟩) len cap→0≤n→n< (len:Int)→
     (Instr.indexAt T v (.int k n)).run P w=.ok (.pointer (some ⟨b,o+n.toNat*et.size,none⟩)) w:=by
    intro b o len cap e' h0 h1
    subst e'
    simp[Instr.indexAt,asIntOf,hu,hs,h0,h1,qy]
   have slice:∀z es,z=et.size∧0≤n∧n< (es.length:Int)→zk g.fr w (.sl z es) v→
     ∃u,(Instr.indexAt T v (.int k n)).run P w=.ok u w∧zd g w (.ip z (elemAt es n.toNat) 0) u:=by
    rintro z es ⟨hz,h0,h1⟩ r
    subst hz
    simp only[zk]at r
    rcases r with ⟨rfl,_⟩|⟨b,o,cap,e',hc,hf,he⟩
    ·simp at h1;omega
    ·refine⟨_,step b o _ cap e' h0 h1,?_⟩
     have hn:n.toNat<es.length:=by omega
     have hg:es[n.toNat]?=some (elemAt es n.toNat):=by simp[elemAt,List.getElem?_eq_getElem hn]
     obtain⟨u,hu1,hu2,hu3⟩:=qD.get he hg
     simp only[zd]
     refine⟨b,o+n.toNat*et.size,rfl,?_,?_⟩
     ·have:n.toNat*et.size+et.size≤es.length*et.size:=by
       have:=Nat.mul_le_mul_right et.size (show n.toNat+1≤es.length from hn)
       rw[Nat.add_mul]at this;omega
      omega
     ·simp only[qD,and_true]
      exact⟨u,hu1,hu2,hu3⟩
   split at h
   ·rename_i et' z es h'
    simp only[Option.some.injEq]at h';subst h'
    simp only[zd]at r
    exact slice _ _ h r
   ·rename_i et' t z es h'
    simp only[Option.some.injEq]at h';subst h'
    simp only[zd]at r
    exact slice _ _ h r.1
   ·rename_i et' t z o m h'
    simp only[Option.some.injEq]at h';subst h'
    simp only[zd]at r⊢
    obtain⟨b,o',cap,hk,e',hc,ho,_⟩:=r
    obtain⟨hz,h0,h1⟩:=h
    subst hz
    have ho':o'=o:=ho.resolve_left (by omega)
    subst ho'
    exact⟨_,step b o' m cap e' h0 h1,b,hk,rfl⟩
   ·exact h.elim
 ·rename_i len e sz by_ ze k n hT
  have hu:=zw w hT
  simp only[zd,zk]at ri hu⊢
  subst ri
  cases het:ty P e with
  |none=>simp only[het]at h;exact h.elim
  |some et=>
   simp only[het]at h⊢
   have hs:=qE w het
   have step:∀b o,v=.pointer (some ⟨b,o,none⟩)→0≤n→n< (len:Int)→
     (Instr.indexAt T v (.int k n)).run P w=.ok (.pointer (some ⟨b,o+n.toNat*et.size,none⟩)) w:=by
    intro b o e' h0 h1
    subst e'
    simp[Instr.indexAt,asIntOf,hu,hs,h0,h1,qy,Instr.sureAddr]
   split at h
   ·rename_i et' t o h'
    simp only[Option.some.injEq]at h';subst h'
    simp only[zd]at r⊢
    obtain⟨b,hk,e'⟩:=r
    exact⟨_,step b o e' h.1 h.2,b,hk,rfl⟩
   ·rename_i et' z e1 o h'
    simp only[Option.some.injEq]at h';subst h'
    simp only[zd]at r⊢
    obtain⟨b,base,e',hf,he⟩:=r
    exact⟨_,step b _ e' h.1 h.2,b,base,by rw[Nat.add_assoc],hf,he⟩
   ·exact h.elim
 ·exact h.elim
end Go.AM
end
section
namespace Go.AM
def Vh:List AV→Option (List PV)
 | []=>some []
 |.p x::l=>(Vh l).map (x::·)
 |_::_=>none
theorem uD:∀{l:List AV} {xs:List PV},Vh l=some xs→l=xs.map .p
 | [],xs,h=>by simp[Vh]at h;subst h;rfl
 |x::l,xs,h=>by
  unfold Vh at h
  split at h
  ·rename_i h';cases h'
  ·rename_i y l' h'
   injection h' with h1 h2
   subst h1;subst h2
   simp only[Option.map_eq_some_iff]at h
   obtain⟨ys,h1,rfl⟩:=h
   rw[uD h1];rfl
  ·cases h
def zbE(T:Ty)(z:Nat)(e:PV)(o:Nat):PR:=
 match e with
 |.agg cs=>if cs.length=z then Wc (qv T.desc) T.size cs o else bad
 |e=>if qv T.desc=false∧o=0∧z=1 then(e.fits=true,.p e)else bad
def yq(P:Program)(S:St)(t:TypeId)(x:AV):PR:=
 match ty P t with
 |some T=>
  match x with
  |.lp r o=>
   match zH S.rs r with
   |some cs=>
    if qv T.desc then
     match Vh ((cs.drop o).take T.size)with
     |some xs=>(xs.length=T.size,.p (.agg xs))
     |none=>(((cs.drop o).take T.size).length=T.size,.ag ((cs.drop o).take T.size))
    else match cs[o]? with
     |some y=>(True,y)
     |none=>bad
   |none=>bad
  |.ip z e o=>zbE T z e o
  |_=>bad
 |none=>bad
theorem Wm {fr:Nat→Nat} {w:World}:∀{xs:List PV} {vs:List Value},xs.length=vs.length→
  (∀(j:Nat) (x:PV),xs[j]?=some x→∃v,vs[j]?=some v∧v.oneCell'=true∧zk fr w x v)→zG fr w xs vs
 | [],[],_,_=>by simp[zG]
 |x::xs,v::vs,hl,h=>by
  simp only[zG]
  obtain⟨u,hu,h1,hr⟩:=h 0 x (by simp)
  simp at hu;subst hu
  exact⟨v,vs,rfl,h1,hr,Wm (by simpa using hl) (fun j y hj=>by simpa using h (j+1) y (by simpa using hj))⟩
theorem QL {P:Program} {t:TypeId} {T:Ty} {w:World}(hT:ty P t=some T)(hA:qv T.desc=true)(b o:Nat)(vs:List Value)(hl:vs.length=T.size)
  (h:∀(j:Nat) (v:Value),vs[j]?=some v→w.cell? ⟨b,o+j,none⟩=some v):(loadVar t ⟨b,o,none⟩).run P w=.ok (.agg vs.toArray) w:=by
 unfold loadVar
 rw[Sem.run_bind,wy w hT,hA]
 have:=run_loadCells_list (P:=P) w ⟨b,o,none⟩ vs (fun j v hj=>by rw[qy];exact h j v hj)
 rw[hl]at this
 simp[qE w hT,this]
theorem kJ {P:Program} {t:TypeId} {T:Ty} {w:World}(hT:ty P t=some T)(hA:qv T.desc=false)(b o:Nat)(v:Value)
  (h:w.cell? ⟨b,o,none⟩=some v):(loadVar t ⟨b,o,none⟩).run P w=.ok v w:=by
 unfold loadVar
 rw[Sem.run_bind,wy w hT,hA]
 simp[h]
theorem qt {w:World} {b o:Nat} {arr:Array Value} {T:TypeId}(h:w.heap[b]?=some (.cells arr T (0,0))):w.cell? ⟨b,o,none⟩=arr[o]?:=by
 simp[World.cell?,h]
theorem vO [Gi] {P : Program} {E : Ent} {S : St} {g : Gh} {a : Act} {w : World} (hS : SR E S g a w) {t : TypeId} {x : AV} {v : Value} (h : (yq P S t x).1) (r : zd g w x v) :
    ∃ u, (Instr.loadAt t v).run P w = .ok u w ∧ zd g w (yq P S t x).2 u := by
  unfold yq at h ⊢
  cases hT : ty P t with
  | none => simp only [hT] at h; exact h.elim
  | some T =>
    simp only [hT] at h ⊢
    split at h
    · rename_i rt o
      simp only [zd] at r
      obtain ⟨b, hk, rfl⟩ := r
      obtain ⟨cs, hl, h0, arr, T', hb, hle, hc⟩ := hS.roots b rt hk
      simp only [hl] at h ⊢
      have hrun : ∀ u, (loadVar t ⟨b, o, none⟩).run P w = .ok u w → (Instr.loadAt t (.pointer (some ⟨b, o, none⟩))).run P w = .ok u w := by
        intro u hu; simp [Instr.loadAt, Instr.sureAddr, hu]
      cases hA : qv T.desc with
      | true =>
        simp only [hA, if_true] at h ⊢
        cases hx : Vh ((cs.drop o).take T.size) with
        | none =>
          simp only [hx] at h ⊢
          have hsz : T.size ≤ cs.length - o := by simp at h; omega
          have hget : ∀ (j : Nat) (x : AV), ((cs.drop o).take T.size)[j]? = some x → j < T.size ∧ cs[o + j]? = some x := by
            intro j x hj
            have hjl : j < T.size := by
              have := (List.getElem?_eq_some_iff.1 hj).1; simp at this; omega
            refine ⟨hjl, ?_⟩
            rwa [List.getElem?_take, if_pos hjl, List.getElem?_drop] at hj
          refine ⟨_, hrun _ (QL hT hA b o ((arr.toList.drop o).take T.size) ?_ (fun j v hj => ?_)), ?_⟩
          · rcases Nat.eq_zero_or_pos T.size with hz | hz
            · simp [hz]
            · simp; omega
          · have hjl : j < T.size := by
              rcases Nat.lt_or_ge j T.size with h' | h'
              · exact h'
              · rw [List.getElem?_take, if_neg (by omega)] at hj; cases hj
            rw [List.getElem?_take, if_pos hjl, List.getElem?_drop] at hj
            rw [qt hb]; simpa using hj
          · have key : ∀ (ys : List AV) (vs : List Value), ys.length = vs.length → (∀ (j : Nat) (x : AV), ys[j]? = some x → ∃ v, vs[j]? = some v ∧ v.oneCell' = true ∧ zd g w x v) → zt g w ys vs ∧ ∀ u ∈ vs, u.oneCell' = true := by
              intro ys
              induction ys with
              | nil => intro vs hl _; cases vs with
                | nil => exact ⟨by simp [zt], by simp⟩
                | cons v vs => simp at hl
              | cons y ys ih =>
                intro vs hl hh
                cases vs with
                | nil => simp at hl
                | cons v vs =>
                  obtain ⟨u, hu, h1, hr⟩ := hh 0 y rfl
                  simp at hu; subst hu
                  obtain ⟨i1, i2⟩ := ih vs (by simpa using hl) (fun j x hj => by simpa using hh (j + 1) x (by simpa using hj))
                  refine ⟨by simp only [zt]; exact ⟨v, vs, rfl, hr, i1⟩, fun u hu => ?_⟩
                  rcases List.mem_cons.1 hu with rfl | hu
                  · exact h1
                  · exact i2 u hu
            obtain ⟨i1, i2⟩ := key ((cs.drop o).take T.size) ((arr.toList.drop o).take T.size) (by
              rcases Nat.eq_zero_or_pos T.size with hz | hz
              · simp [hz]
              · simp; omega) (fun j x hj => by
              obtain ⟨hjl, hj⟩ := hget j x hj
              obtain ⟨v, hv, h1, hr⟩ := hc _ _ hj
              refine ⟨v, ?_, h1, hr⟩
              simp only [List.getElem?_take, hjl, if_true, List.getElem?_drop]
              simpa using hv)
            simp only [zd]
            exact ⟨_, rfl, by simpa using i2, by simpa using i1⟩
        | some xs =>
          simp only [hx] at h ⊢
          have he := uD hx
          have hlen : (cs.drop o).take T.size = xs.map AV.p := he
          have hsz : T.size ≤ cs.length - o := by
            have := congrArg List.length hlen
            simp at this; omega
          have hget : ∀ j x, xs[j]? = some x → cs[o + j]? = some (.p x) := by
            intro j x hj
            have hjl : j < T.size := by
              have := (List.getElem?_eq_some_iff.1 hj).1; omega
            have := congrArg (·[j]?) hlen
            simp only [List.getElem?_take, hjl, if_true, List.getElem?_drop, List.getElem?_map, hj, Option.map_some] at this
            exact this
          rcases Nat.eq_zero_or_pos T.size with hz | hz
          · have hx0 : xs = [] := List.length_eq_zero_iff.1 (by omega)
            refine ⟨_, hrun _ (QL hT hA b o [] (by simp [hz]) (by simp)), ?_⟩
            subst hx0
            simp only [zd, zk]
            exact ⟨_, rfl, by simp [zG]⟩
          · refine ⟨_, hrun _ (QL hT hA b o ((arr.toList.drop o).take T.size) (by simp; omega) (fun j v hj => ?_)), ?_⟩
            · have hjl : j < T.size := by
                rcases Nat.lt_or_ge j T.size with h' | h'
                · exact h'
                · rw [List.getElem?_take, if_neg (by omega)] at hj; cases hj
              rw [List.getElem?_take, if_pos hjl, List.getElem?_drop] at hj
              rw [qt hb]; simpa using hj
            · simp only [zd, zk]
              refine ⟨_, rfl, ?_⟩
              refine Wm (by simp; omega) (fun j x hj => ?_)
              obtain ⟨v, hv, h1, hr⟩ := hc _ _ (hget j x hj)
              simp only [zd] at hr
              have hjl : j < T.size := by
                have := (List.getElem?_eq_some_iff.1 hj).1; omega
              refine ⟨v, ?_, h1, hr⟩
              simp only [List.getElem?_take, hjl, if_true, List.getElem?_drop]
              simpa using hv
      | false =>
        simp only [hA] at h ⊢
        cases hy : cs[o]? with
        | none => simp [hy] at h; exact h.elim
        | some y =>
          obtain ⟨v, hv, h1, hr⟩ := hc o y hy
          exact ⟨v, hrun _ (kJ hT hA b o v (by rw [qt hb]; exact hv)), by simpa [hy] using hr⟩
    · rename_i z e o
      simp only [zd] at r
      obtain ⟨b, base, rfl, hf, he⟩ := r
      simp only [qD, and_true] at he
      obtain ⟨u, hu1, hu2, hu3⟩ := he
      have hrun : ∀ u, (loadVar t ⟨b, base + o, none⟩).run P w = .ok u w → (Instr.loadAt t (.pointer (some ⟨b, base + o, none⟩))).run P w = .ok u w := by
        intro u hu; simp [Instr.loadAt, Instr.sureAddr, hu]
      unfold zbE at h ⊢
      split at h
      · rename_i cs
        simp only [zk] at hu1
        obtain ⟨vs, rfl, hL⟩ := hu1
        split at h
        · rename_i hz
          simp only [hz, if_true]
          have hlv := zG.length hL
          have hcell : ∀ j v, vs.toList[j]? = some v → w.cell? ⟨b, base + j, none⟩ = some v := fun j v hj => (hu3 j v (by simpa [Value.cells] using hj)).2
          unfold Wc at h ⊢
          cases hA : qv T.desc with
          | true =>
            simp only [hA, if_true] at h ⊢
            refine ⟨_, hrun _ (QL hT hA b (base + o) ((vs.toList.drop o).take T.size) (by simp at hlv ⊢; omega) (fun j v hj => ?_)), ?_⟩
            · have hjl : j < T.size := by
                rcases Nat.lt_or_ge j T.size with h' | h'
                · exact h'
                · rw [List.getElem?_take, if_neg (by omega)] at hj; cases hj
              rw [List.getElem?_take, if_pos hjl, List.getElem?_drop] at hj
              rw [Nat.add_assoc]; exact hcell _ _ hj
            · simp only [zd, zk]
              exact ⟨_, rfl, by simpa using (hL.drop o).take T.size⟩
          | false =>
            simp only [hA] at h ⊢
            cases hx : cs[o]? with
            | none => simp [hx] at h; exact h.elim
            | some x =>
              obtain ⟨v, hv, h1, hr⟩ := hL.get hx
              refine ⟨v, hrun _ (kJ hT hA b (base + o) v (hcell _ _ hv)), ?_⟩
              simpa [hx, zd] using hr
        · exact h.elim
      · rename_i e' hne
        split at h
        · rename_i hc
          obtain ⟨hA, rfl, hz⟩ := hc
          simp only [hA, hz, if_true, and_true]
          have hone : u.cells = #[u] := by
            cases u <;> first
              | rfl
              | (exfalso; cases e with
                 | agg cs => exact hne cs rfl
                 | opq q => simp only [zk] at hu1; subst hu1; cases h
                 | sl z' es => simp only [zk] at hu1; rcases hu1 with ⟨_, _, _, h'⟩ | ⟨_, _, _, h', _⟩ <;> cases h'
                 | mp ks xs => simp only [zk] at hu1; obtain ⟨_, _, _, h', _⟩ := hu1; cases h'
                 | pt z' e' => simp only [zk] at hu1; obtain ⟨_, _, h', _⟩ := hu1; cases h'
                 | _ => simp only [zk] at hu1; cases hu1)
          refine ⟨u, hrun _ (kJ hT hA b (base + 0) u (hu3 0 u (by rw [hone]; rfl)).2), ?_⟩
          simp only [zd]; exact hu1
        · exact h.elim
    · exact h.elim
def YT(P:Program)(T:TypeId)(x:AV)(f:Nat):PR:=
 match ty P T,x with
 |some ⟨.struct fs,_,_,_⟩,.p (.agg cs)=>
  match fs[f]? with
  |some fd=>match ty P fd.type with
   |some ft=>Wc (qv ft.desc) ft.size cs fd.offset
   |none=>bad
  |none=>bad
 |_,_=>bad
theorem za2 {P:Program} {T:TypeId} {x:AV} {f:Nat} {g:Gh} {w:World} {v:Value}(h:(YT P T x f).1)(r:zd g w x v):
  ∃u,(Instr.field T v f).run P w=.ok u w∧zd g w (YT P T x f).2 u:=by
 unfold YT at h⊢
 split at h
 ·rename_i fs sz by_ ze cs hT
  have hu:=zw w hT
  simp only[zd,zk]at r hu
  obtain⟨vs,rfl,hL⟩:=r
  cases hf:fs[f]? with
  |none=>simp only[hf]at h;exact h.elim
  |some fd=>
   simp only[hf]at h⊢
   cases hft:ty P fd.type with
   |none=>simp only[hft]at h;exact h.elim
   |some ft=>
    simp only[hft]at h⊢
    obtain⟨u,h1,h2⟩:=KA (w:=w) (g:=g) hft h hL
    refine⟨u,?_,h2⟩
    unfold Instr.field
    rw[Sem.run_bind,hu]
    simp[hf,asAgg,h1]
 ·exact h.elim
def Qj(s:List UInt8)(n:Nat):Int:=(s.getD n 0).toNat
def K8(P:Program)(T:TypeId)(x i:AV):PR:=
 match ty P T,x,i with
 |some ⟨.string,_,_,_⟩,.p (.str s),.p (.int _ n)=>(0≤n∧n<s.length,.p (.int .u8 (Qj s n.toNat)))
 |some ⟨.array len e,_,_,_⟩,.p (.agg cs),.p (.int _ n)=>
  match ty P e with
  |some et=>((0≤n∧n<len)∧(Wc (qv et.desc) et.size cs (n.toNat*et.size)).1,(Wc (qv et.desc) et.size cs (n.toNat*et.size)).2)
  |none=>bad
 |_,_,_=>bad
theorem zbC {P:Program} {T:TypeId} {x i:AV} {g:Gh} {w:World} {v iv:Value}(h:(K8 P T x i).1)(r:zd g w x v)(ri:zd g w i iv):
  ∃u,(Instr.index T v iv).run P w=.ok u w∧zd g w (K8 P T x i).2 u:=by
 unfold K8 at h⊢
 split at h
 ·rename_i sz by_ ze s k n hT
  have hu:=zw w hT
  simp only[zd,zk]at r ri hu
  subst r;subst ri
  obtain⟨h0,h1⟩:=h
  have hn:n.toNat<s.length:=by omega
  have hg:(⟨s.toArray⟩:ByteArray)[n.toNat]?=some s[n.toNat]:=by
   rw[ByteArray.getElem?_lt' _ _ (by simpa[ByteArray.size]using hn)]
   rfl
  refine⟨.int .u8 (Qj s n.toNat),?_,by simp only[zd,zk]⟩
  unfold Instr.index
  simp only[Sem.run_bind,asIntOf,Sem.run_pure,Result.andThen_ok,hu,h0,if_true,hg]
  simp[Qj,hn]
 ·rename_i len e sz by_ ze cs k n hT
  have hu:=zw w hT
  simp only[zd,zk]at r ri hu
  subst ri
  obtain⟨vs,rfl,hL⟩:=r
  cases het:ty P e with
  |none=>simp only[het]at h;exact h.elim
  |some et=>
   simp only[het]at h⊢
   obtain⟨⟨h0,h1⟩,h2⟩:=h
   obtain⟨u,hu1,hu2⟩:=KA (w:=w) (g:=g) het h2 hL
   refine⟨u,?_,hu2⟩
   unfold Instr.index
   simp only[Sem.run_bind,asIntOf,Sem.run_pure,Result.andThen_ok,hu,h0,h1,and_self,if_true,qE w het,hu1]
 ·exact h.elim
def vZ(x:AV)(i:Nat):PR:=
 match x with
 |.tup xs=>match xs[i]? with
  |some y=>(True,y)
  |none=>bad
 |_=>bad
theorem zt.get {g:Gh} {w:World}:∀{xs:List AV} {vs:List Value},zt g w xs vs→∀{i:Nat} {x:AV},xs[i]?=some x→∃v,vs[i]?=some v∧zd g w x v
 | [],vs,r,i,x,h=>by simp at h
 |c::cs,vs,r,i,x,h=>by
  simp only[zt]at r
  obtain⟨v,vs',rfl,h1,r⟩:=r
  cases i with
  |zero=>simp at h;subst h;exact⟨v,by simp,h1⟩
  |succ i=>simpa using zt.get r (i:=i) (x:=x) (by simpa using h)
theorem JO {P:Program} {x:AV} {i:Nat} {g:Gh} {w:World} {v:Value}(h:(vZ x i).1)(r:zd g w x v):
  ∃u,(Instr.extract v i).run P w=.ok u w∧zd g w (vZ x i).2 u:=by
 unfold vZ at h⊢
 split at h
 ·rename_i xs
  simp only[zd]at r
  obtain⟨vs,rfl,r⟩:=r
  cases hx:xs[i]? with
  |none=>simp only[hx]at h;exact h.elim
  |some y=>
   obtain⟨u,hu,hr⟩:=r.get hx
   refine⟨u,?_,by simpa only[hx]using hr⟩
   have:vs[i]?=some u:=by simpa using hu
   simp[Instr.extract,this]
 ·exact h.elim
end Go.AM
end
