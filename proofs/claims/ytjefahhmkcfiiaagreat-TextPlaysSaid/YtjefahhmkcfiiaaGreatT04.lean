/- A part of the proof of this seat's statements, by an abstract machine: what each operation does to values, and what the law's functions compute. Conditions: as each law says. -/
import Derived.Test.YtjefahhmkcfiiaaGreatT03
import Derived.MapKept
section
namespace Go.AM
def qR(key:List PV):List PV→List PV→Nat→Option (Nat×PV)
 |k::ks,x::xs,i=>if eqC key k.cells then some (i,x)else qR key ks xs (i+1)
 |_,_,_=>none
theorem zjH {P:Program} {fr:Nat→Nat} {w:World} {kt:TypeId} {ag:Bool} {kc:List Kc}(hk:Z7 P kt=some (ag,kc)) {k1 k2:PV}(h1:Qz ag kc k1=true)(h2:Qz ag kc k2=true) {u v:Value}(r1:zl fr w k1 u)(r2:zl fr w k2 v):
  (Op.equal kt u v).run P w=.ok (eqC k1.cells k2.cells) w:=by
 obtain⟨h8,_⟩:=kq hk
 obtain⟨cs,a1,a2,_⟩:=j7 hk h1 r1
 obtain⟨ds,b1,b2,_⟩:=j7 hk h2 r2
 exact Un 9992 8 kt kc _ _ u v cs ds h8 (qk h1).2 (qk h2).2 a1 b1 a2 b2
def Found(fr:Nat→Nat)(w:World)(key:PV)(es:List MapEntry)(ks xs:List PV)(i:Nat)(r:Option (Nat×Value)):Prop:=
 (qR key.cells ks xs i=none∧r=none)∨∃j x v,qR key.cells ks xs i=some (j,x)∧r=some (j,v)∧zl fr w x v∧i≤j∧xs[j-i]?=some x∧∃e,es[j-i]?=some e∧∃k,ks[j-i]?=some k∧eqC key.cells k.cells=true
theorem Found.cons {fr:Nat→Nat} {w:World} {key:PV} {e:MapEntry} {es:List MapEntry} {k x:PV} {ks xs:List PV} {i:Nat} {r:Option (Nat×Value)}(hc:eqC key.cells k.cells=false)(h:Found fr w key es ks xs (i+1) r):Found fr w key (e::es) (k::ks) (x::xs) i r:=by
 unfold Found
 simp only[qR,hc,Bool.false_eq_true,if_false]
 refine h.imp id ?_
 rintro⟨j,y,v,a1,a2,a3,a4,a5,e',a6,k',a7,a8⟩
 have hj:j-i=(j- (i+1))+1:=by omega
 exact⟨j,y,v,a1,a2,a3,by omega,by rw[hj];simpa using a5,e',by rw[hj];simpa using a6,k',by rw[hj];simpa using a7,a8⟩
theorem Found.here {fr:Nat→Nat} {w:World} {key:PV} {e:MapEntry} {es:List MapEntry} {k x:PV} {ks xs:List PV} {i:Nat}(hc:eqC key.cells k.cells=true)(h:zl fr w x e.val):Found fr w key (e::es) (k::ks) (x::xs) i (some (i,e.val)):=by
 unfold Found
 simp only[qR,hc,if_true]
 exact .inr ⟨i,x,e.val,rfl,rfl,h,Nat.le_refl _,by simp,e,by simp,k,by simp,hc⟩
theorem Found.none {fr:Nat→Nat} {w:World} {key:PV} {ks xs:List PV} {i:Nat}(rk:q9 fr w ks (([]:List MapEntry).map (·.key))):Found fr w key [] ks xs i none:=by
 cases ks with
 |nil=>exact .inl ⟨by simp[qR],rfl⟩
 |cons k ks=>simp only[List.map_nil,q9]at rk;obtain⟨_,_,e,_⟩:=rk;cases e
theorem Ww {fr:Nat→Nat} {w:World} {l:List PV} {v:Value} {vs:List Value}(r:q9 fr w l (v::vs)):∃x l',l=x::l'∧zl fr w x v∧q9 fr w l' vs:=by
 cases l with
 |nil=>simp only[q9]at r;cases r
 |cons x l=>
  simp only[q9]at r
  obtain⟨u,us,e,h1,h2⟩:=r
  injection e with e1 e2;subst e1;subst e2
  exact⟨x,l,rfl,h1,h2⟩
theorem wS {P:Program} {fr:Nat→Nat} {w:World} {kt:TypeId} {ag:Bool} {kc:List Kc}(hk:Z7 P kt=some (ag,kc)) {key:PV} {u:Value}(h1:Qz ag kc key=true)(r1:zl fr w key u):
  ∀{es:List MapEntry} {ks xs:List PV} (i:Nat),ks.all (Qz ag kc)=true→q9 fr w ks (es.map (·.key))→q9 fr w xs (es.map (·.val))→
   ∃r,(Instr.findAsking kt u es i).run P w=.ok r w∧Found fr w key es ks xs i r
 | [],ks,xs,i,_,rk,rx=>⟨none,rfl,Found.none rk⟩
 |e::es,ks,xs,i,ho,rk,rx=>by
  simp only[List.map_cons]at rk rx
  obtain⟨k,ks,rfl,rk1,rk2⟩:=Ww rk
  obtain⟨x,xs,rfl,rx1,rx2⟩:=Ww rx
  simp only[List.all_cons,Bool.and_eq_true]at ho
  have he:=zjH (P:=P) hk h1 ho.1 r1 rk1
  unfold Instr.findAsking
  simp only[Sem.run_bind,he,Result.andThen_ok]
  cases hc:eqC key.cells k.cells with
  |true=>exact⟨some (i,e.val),rfl,Found.here hc rx1⟩
  |false=>
   obtain⟨r,hr,h⟩:=wS hk h1 r1 (es:=es) (ks:=ks) (xs:=xs) (i+1) ho.2 rk2 rx2
   exact⟨r,hr,Found.cons hc h⟩
theorem zdn {T:TypeDesc}(h:qB T=true)(u v:Value):Instr.sameNow T u v=none:=by
 cases T<;>simp[qB]at h<;>rfl
theorem zfq {P:Program} {fr:Nat→Nat} {w:World} {kt:TypeId} {kc:List Kc} {T:TypeDesc}(hk:Z7 P kt=some (false,kc))(hT:P.underlying kt=some T) {k1 k2:PV}(h1:Qz false kc k1=true)(h2:Qz false kc k2=true) {u v:Value}(r1:zl fr w k1 u)(r2:zl fr w k2 v):
  Instr.sameNow T u v=some (eqC k1.cells k2.cells):=by
 have b1:=(qk h1).2
 have b2:=(qk h2).2
 have a1:=(qk h1).1
 have a2:=(qk h2).1
 unfold Z7 at hk
 rw[hT]at hk
 split at hk
 ·rename_i e;injection e with e;subst e
  injection hk with hk;injection hk with _ hk;subst hk
  cases k1<;>simp[Vj,PV.cells,okC]at a1 b1
  cases k2<;>simp[Vj,PV.cells,okC]at a2 b2
  simp only[zl]at r1 r2
  subst r1;subst r2
  simp[Instr.sameNow,PV.cells,eqC]
 ·rename_i k e;injection e with e;subst e
  injection hk with hk;injection hk with _ hk;subst hk
  cases k1<;>simp[Vj,PV.cells,okC]at a1 b1
  cases k2<;>simp[Vj,PV.cells,okC]at a2 b2
  subst b1;subst b2
  simp only[zl]at r1 r2
  subst r1;subst r2
  simp[Instr.sameNow,PV.cells,eqC,Yi]
 ·rename_i e;injection e with e;subst e
  injection hk with hk;injection hk with _ hk;subst hk
  cases k1<;>simp[Vj,PV.cells,okC]at a1 b1
  cases k2<;>simp[Vj,PV.cells,okC]at a2 b2
  simp only[zl]at r1 r2
  subst r1;subst r2
  rename_i p q
  have:((⟨p.toArray⟩:ByteArray)==⟨q.toArray⟩)=decide (p=q):=by
   rw[beq_toListBytes,Yi]
   simp[ByteArray.toList_eq]
  simp[Instr.sameNow,PV.cells,eqC,this]
 ·rw[Option.map_eq_some_iff]at hk
  obtain⟨_,_,e⟩:=hk
  cases e
theorem Vc {P:Program} {fr:Nat→Nat} {w:World} {kt:TypeId} {kc:List Kc} {T:TypeDesc}(hk:Z7 P kt=some (false,kc))(hT:P.underlying kt=some T) {key:PV} {u:Value}(h1:Qz false kc key=true)(r1:zl fr w key u):
  ∀{es:List MapEntry} {ks xs:List PV} (i:Nat),ks.all (Qz false kc)=true→q9 fr w ks (es.map (·.key))→q9 fr w xs (es.map (·.val))→
   ∃r,Instr.findNow T u es i=some r∧Found fr w key es ks xs i r
 | [],ks,xs,i,_,rk,rx=>⟨none,rfl,Found.none rk⟩
 |e::es,ks,xs,i,ho,rk,rx=>by
  simp only[List.map_cons]at rk rx
  obtain⟨k,ks,rfl,rk1,rk2⟩:=Ww rk
  obtain⟨x,xs,rfl,rx1,rx2⟩:=Ww rx
  simp only[List.all_cons,Bool.and_eq_true]at ho
  have he:=zfq (P:=P) hk hT h1 ho.1 r1 rk1
  unfold Instr.findNow
  rw[he]
  cases hc:eqC key.cells k.cells with
  |true=>exact⟨some (i,e.val),rfl,Found.here hc rx1⟩
  |false=>
   obtain⟨r,hr,h⟩:=Vc hk hT h1 r1 (es:=es) (ks:=ks) (xs:=xs) (i+1) ho.2 rk2 rx2
   exact⟨r,hr,Found.cons hc h⟩
theorem yn {P:Program} {fr:Nat→Nat} {w:World} {kt:TypeId} {ag:Bool} {kc:List Kc}(hk:Z7 P kt=some (ag,kc)) {key:PV} {u:Value}(h1:Qz ag kc key=true)(r1:zl fr w key u)
  {es:List MapEntry} {ks xs:List PV} (ho:ks.all (Qz ag kc)=true) (rk:q9 fr w ks (es.map (·.key))) (rx:q9 fr w xs (es.map (·.val))):
   ∃r,(Instr.findKey kt u es).run P w=.ok r w∧Found fr w key es ks xs 0 r:=by
 obtain⟨h8,T,hT,hA,_⟩:=kq hk
 unfold Instr.findKey
 simp only[Sem.run_bind,run_underlying hT,Result.andThen_ok]
 cases es with
 |nil=>exact⟨none,by simp[Instr.findNow],Found.none rk⟩
 |cons e es=>
  cases ag with
  |true=>
   have hn:Instr.findNow T u (e::es) 0=none:=by simp[Instr.findNow,zdn hA]
   rw[hn]
   exact wS (P:=P) hk h1 r1 (es:=e::es) 0 ho rk rx
  |false=>
   obtain⟨r,hr,h⟩:=Vc (P:=P) hk hT h1 r1 (es:=e::es) 0 ho rk rx
   rw[hr]
   exact⟨r,rfl,h⟩
def mapOf:AV→Option (List PV×List PV)
 |.p (.mp ks xs)=>some (ks,xs)
 |.om _ ks xs=>some (ks,xs)
 |.p (.opq (.map none))=>some ([],[])
 |_=>none
theorem zf9 {g:Gh} {w:World} {x:AV} {v:Value} {ks xs:List PV}(h:mapOf x=some (ks,xs))(r:zc g w x v):
  (v=.map none∧ks=[]∧xs=[])∨∃b arr c,v=.map (some b)∧w.heap[b]?=some (.map arr c)∧q9 g.fr w ks (arr.toList.map (·.key))∧q9 g.fr w xs (arr.toList.map (·.val)):=by
 have at_:∀{b:Nat} {arr:Array MapEntry} {c:Nat},ju w b=some (arr,c)→w.heap[b]?=some (.map arr c):=by
  intro b arr c h
  exact(jY h).1
 unfold mapOf at h
 split at h
 ·injection h with h;injection h with h1 h2;subst h1;subst h2
  simp only[zc,zl]at r
  obtain⟨b,arr,c,e,_,hm,r1,r2⟩:=r
  exact .inr ⟨b,arr,c,e,at_ hm,r1,r2⟩
 ·injection h with h;injection h with h1 h2;subst h1;subst h2
  simp only[zc]at r
  obtain⟨b,arr,c,e,_,_,hm,r1,r2⟩:=r
  exact .inr ⟨b,arr,c,e,at_ hm,r1,r2⟩
 ·injection h with h;injection h with h1 h2;subst h1;subst h2
  simp only[zc,zl]at r
  exact .inl ⟨r,rfl,rfl⟩
 ·cases h
def jf(z:PV):Option (Nat×PV)→PV
 |some (_,x)=>x
 |none=>z
def Zw(P:Program)(T:TypeId)(x k:AV)(ok:Bool):PR:=
 match ty P T with
 |some ⟨.map kt et,_,_,_⟩=>
  match Z7 P kt,XC P et,k,mapOf x with
  |some (ag,kc),some z,.p key,some (ks,xs)=>
   ((Qz ag kc key=true∧ks.all (Qz ag kc)=true),if ok then .tup [.p (jf z (qR key.cells ks xs 0)),.p (.bool (qR key.cells ks xs 0).isSome)]else .p (jf z (qR key.cells ks xs 0)))
  |_,_,_,_=>bad
 |_=>bad
theorem zax {P:Program} {T:TypeId} {x k:AV} {ok:Bool} {g:Gh} {w:World} {v u:Value}(h:(Zw P T x k ok).1)(rx:zc g w x v)(rk:zc g w k u):
  ∃r,(Instr.lookup T v u ok).run P w=.ok r w∧zc g w (Zw P T x k ok).2 r:=by
 unfold Zw at h⊢
 split at h
 ·rename_i kt et sz by_ ze hT
  have hu:=zC w hT
  simp only[]at hu
  split at h
  ·rename_i ag kc z key ks xs hk hz hm
   simp only[zc]at rk
   obtain⟨h8,_⟩:=kq hk
   obtain⟨cs,a1,a2,_⟩:=j7 hk h.1 rk
   obtain⟨zv,hz1,hz2⟩:=za3 hz g.fr w
   have fin:∀(y:Value) (b:Bool),zl g.fr w (jf z (qR key.cells ks xs 0)) y→b=(qR key.cells ks xs 0).isSome→zc g w (if ok then AV.tup [.p (jf z (qR key.cells ks xs 0)),.p (.bool (qR key.cells ks xs 0).isSome)]else .p (jf z (qR key.cells ks xs 0))) (if ok then .tuple #[y,.bool b]else y):=by
    intro y b hy hb
    subst hb
    cases ok
    ·simp only[Bool.false_eq_true,if_false,zc];exact hy
    ·simp only[if_true,zc,zt]
     exact⟨_,rfl,y,[.bool _],rfl,hy,.bool _,[],rfl,by simp only[zl],rfl⟩
   have hck:∀em,(Instr.checkKey em 10000 kt u).run P w=.ok () w:=fun em=>ve em 9992 8 kt kc _ u cs h8 (qk h.1).2 a1 a2
   rcases zf9 hm rx with ⟨rfl,rfl,rfl⟩|⟨b,arr,c,rfl,hb,r1,r2⟩
   ·obtain⟨r,hr,hf⟩:=yn (P:=P) (es:=[]) (ks:=[]) (xs:=[]) hk h.1 rk h.2 (by simp[q9]) (by simp[q9])
    rcases hf with ⟨hf,rfl⟩|⟨j,y,yv,hf,_⟩
    ·refine⟨_,?_,fin zv false (by rw[hf];exact hz2) (by rw[hf];rfl)⟩
     unfold Instr.lookup
     simp only[Sem.run_bind,hu,Result.andThen_ok,Sem.run_pure,hck,hr,hz1]
    ·simp[qR]at hf
   ·obtain⟨r,hr,hf⟩:=yn (P:=P) hk h.1 rk h.2 r1 r2
    rcases hf with ⟨hf,rfl⟩|⟨j,y,yv,hf,rfl,hy,_⟩
    ·refine⟨_,?_,fin zv false (by rw[hf];exact hz2) (by rw[hf];rfl)⟩
     unfold Instr.lookup
     simp only[Sem.run_bind,hu,Result.andThen_ok,Sem.run_pure,MapKept.run_getObj_map hb,hck,hr,hz1]
    ·refine⟨_,?_,fin yv true (by rw[hf];exact hy) (by rw[hf];rfl)⟩
     unfold Instr.lookup
     simp only[Sem.run_bind,hu,Result.andThen_ok,Sem.run_pure,MapKept.run_getObj_map hb,hck,hr]
  ·exact h.elim
 ·exact h.elim
def zab:AV→Option Bool
 |.p (.mp _ _)=>some false
 |.om _ _ _=>some false
 |.p (.opq (.map none))=>some true
 |_=>none
theorem ze8 {g:Gh} {w:World} {x:AV} {v:Value} {b:Bool}(h:zab x=some b)(r:zc g w x v):∃p:Option Nat,v=.map p∧p.isNone=b:=by
 unfold zab at h
 split at h
 ·injection h with h;subst h
  simp only[zc,zl]at r;obtain⟨b,_,_,e,_⟩:=r;exact⟨_,e,rfl⟩
 ·injection h with h;subst h
  simp only[zc]at r;obtain⟨b,_,_,e,_⟩:=r;exact⟨_,e,rfl⟩
 ·injection h with h;subst h
  simp only[zc,zl]at r;exact⟨_,r,rfl⟩
 ·cases h
def zk0(P:Program)(op:BinOp)(t:TypeId)(x:AV):PR:=
 match ty P t with
 |some ⟨.map _ _,_,_,_⟩=>
  match zab x,op with
  |some b,.eql=>(True,.p (.bool b))
  |some b,.neq=>(True,.p (.bool (!b)))
  |_,_=>bad
 |_=>bad
def VZ:AV→Bool
 |.p (.opq (.map none))=>true
 |_=>false
def zdV:AV→Option Bool
 |.p (.opq (.slice none 0 0))=>some true
 |.p (.sl _ (_::_))=>some false
 |.os _ _ (_::_)=>some false
 |.la _ _ _ _=>some false
 |_=>none
theorem zgG {g:Gh} {w:World} {x:AV} {v:Value} {b:Bool}(h:zdV x=some b)(r:zc g w x v):∃p l c,v=.slice p l c∧p.isNone=b:=by
 have key:∀(fr:Nat→Nat) (z:Nat) (e:PV) (es:List PV),zl fr w (.sl z (e::es)) v→∃p l c,v=.slice p l c∧p.isNone=false:=fun fr z e es r=>by
  simp only[zl]at r
  rcases r with ⟨h,_⟩|⟨_,_,_,rfl,_⟩
  ·cases h
  ·exact⟨_,_,_,rfl,rfl⟩
 unfold zdV at h
 split at h
 ·injection h with h;subst h
  simp only[zc,zl]at r;exact⟨_,_,_,r,rfl⟩
 ·injection h with h;subst h
  simp only[zc]at r;exact key _ _ _ _ r
 ·injection h with h;subst h
  simp only[zc]at r;exact key _ _ _ _ r.1
 ·injection h with h;subst h
  simp only[zc]at r;obtain⟨_,_,_,_,e,_⟩:=r;exact⟨_,_,_,e,rfl⟩
 ·cases h
def zkq(P:Program)(op:BinOp)(t:TypeId)(x:AV):PR:=
 match ty P t with
 |some ⟨.slice _,_,_,_⟩=>
  match zdV x,op with
  |some b,.eql=>(True,.p (.bool b))
  |some b,.neq=>(True,.p (.bool (!b)))
  |_,_=>bad
 |_=>bad
def UM:AV→Bool
 |.p (.opq (.slice none 0 0))=>true
 |_=>false
def zkY(P:Program)(op:BinOp)(t:TypeId)(x y:AV):PR:=if VZ y then zk0 P op t x else if UM y then zkq P op t x else zky P op t x y
theorem zfY {P : Program} {op : BinOp} {t : TypeId} {x y : AV} {g : Gh} {w : World} {u v : Value} (xo yo : Operand) (h : (zkY P op t x y).1)
    (hx : zc g w x u) (hy : zc g w y v) :
    ∃ r, (do eqGuard op t xo yo u v; binOp op t u v : Sem Value).run P w = .ok r w ∧ zc g w (zkY P op t x y).2 r := by
  unfold zkY at h ⊢
  by_cases hn : VZ y = true
  · rw [if_pos hn] at h ⊢
    unfold VZ at hn
    split at hn
    · simp only [zc, zl] at hy
      subst hy
      unfold zk0 at h ⊢
      split at h
      · rename_i kt et _ _ _ hT
        have hu : P.underlying t = some (.map kt et) := by obtain ⟨_, _, hu, _⟩ := Zn hT; exact hu
        cases hm : zab x with
        | none => rw [hm] at h; exact h.elim
        | some b =>
          rw [hm] at h
          obtain ⟨p, rfl, hp⟩ := ze8 hm hx
          have e00 : ∀ d, (Op.equalIn (d + 1) t (.map p) (.map none)).run P w = .ok p.isNone w := fun d => by
            cases p <;> simp [Op.equalIn, run_underlying hu]
          have e0 : (Op.equal t (.map p) (.map none)).run P w = .ok p.isNone w := e00 9999
          have e1 : binOp .eql t (.map p) (.map none) = (do let c ← Op.equal t (.map p) (.map none); pure (.bool c)) := by cases p <;> rfl
          have e2 : binOp .neq t (.map p) (.map none) = (do let c ← Op.equal t (.map p) (.map none); pure (.bool (!c))) := by cases p <;> rfl
          cases op <;> simp only [] at h ⊢ <;> first
            | exact h.elim
            | (refine ⟨.bool b, ?_, by simp only [zc, zl]⟩
               rw [Sem.run_bind, kJ (by simp) (by simp), Result.andThen_ok, e1, Sem.run_bind, e0, hp]; rfl)
            | (refine ⟨.bool (!b), ?_, by simp only [zc, zl]⟩
               rw [Sem.run_bind, kJ (by simp) (by simp), Result.andThen_ok, e2, Sem.run_bind, e0, hp]; rfl)
      · exact h.elim
    · cases hn
  · rw [if_neg hn] at h ⊢
    by_cases hs : UM y = true
    · rw [if_pos hs] at h ⊢
      unfold UM at hs
      split at hs
      · simp only [zc, zl] at hy
        subst hy
        unfold zkq at h ⊢
        split at h
        · rename_i et _ _ _ hT
          have hu : P.underlying t = some (.slice et) := by obtain ⟨_, _, hu, _⟩ := Zn hT; exact hu
          cases hm : zdV x with
          | none => rw [hm] at h; exact h.elim
          | some b =>
            rw [hm] at h
            obtain ⟨p, l, c, rfl, hp⟩ := zgG hm hx
            have e00 : ∀ d, (Op.equalIn (d + 1) t (.slice p l c) (.slice none 0 0)).run P w = .ok p.isNone w := fun d => by
              cases p <;> simp [Op.equalIn, run_underlying hu]
            have e0 : (Op.equal t (.slice p l c) (.slice none 0 0)).run P w = .ok p.isNone w := e00 9999
            have e1 : binOp .eql t (.slice p l c) (.slice none 0 0) = (do let c ← Op.equal t (.slice p l c) (.slice none 0 0); pure (.bool c)) := by cases p <;> rfl
            have e2 : binOp .neq t (.slice p l c) (.slice none 0 0) = (do let c ← Op.equal t (.slice p l c) (.slice none 0 0); pure (.bool (!c))) := by cases p <;> rfl
            cases op <;> simp only [] at h ⊢ <;> first
              | exact h.elim
              | (refine ⟨.bool b, ?_, by simp only [zc, zl]⟩
                 rw [Sem.run_bind, kJ (by simp) (by simp), Result.andThen_ok, e1, Sem.run_bind, e0, hp]; rfl)
              | (refine ⟨.bool (!b), ?_, by simp only [zc, zl]⟩
                 rw [Sem.run_bind, kJ (by simp) (by simp), Result.andThen_ok, e2, Sem.run_bind, e0, hp]; rfl)
        · exact h.elim
      · cases hs
    · rw [if_neg hs] at h ⊢
      exact zg7 xo yo h hx hy
def zhZ:AV→Option Bool
 |.p (.opq .nilIface)=>some true
 |.p (.opq (.iface _ _))=>some false
 |_=>none
def zfp(P:Program)(op:BinOp)(t:TypeId)(x:AV):PR:=
 match ty P t with
 |some ⟨.interface _,_,_,_⟩=>
  match zhZ x,op with
  |some b,.eql=>(True,.p (.bool b))
  |some b,.neq=>(True,.p (.bool (!b)))
  |_,_=>bad
 |_=>bad
def zc3:Operand→Bool
 |.const .nilIface=>true
 |_=>false
def zid(P:Program)(op:BinOp)(t:TypeId)(yo:Operand)(x y:AV):PR:=if zc3 yo then zfp P op t x else zkY P op t x y
theorem zeA {P : Program} {op : BinOp} {t : TypeId} {x : AV} {g : Gh} {w : World} {u : Value} (xo : Operand) (h : (zfp P op t x).1) (hx : zc g w x u) :
    ∃ r, (do eqGuard op t xo (.const .nilIface) u .nilIface; binOp op t u .nilIface : Sem Value).run P w = .ok r w ∧ zc g w (zfp P op t x).2 r := by
  unfold zfp at h ⊢
  split at h
  · rename_i ms _ _ _ hT
    have hu : P.underlying t = some (.interface ms) := by obtain ⟨_, _, hu, _⟩ := Zn hT; exact hu
    cases hm : zhZ x with
    | none => rw [hm] at h; exact h.elim
    | some b =>
      rw [hm] at h
      have hq : (eqGuard op t xo (.const .nilIface) u .nilIface).run P w = .ok () w ∧ (∀ d, (Op.equalIn (d + 1) t u .nilIface).run P w = .ok b w) ∧ ((binOp .eql t u .nilIface) = (do let c ← Op.equal t u .nilIface; pure (.bool c))) ∧ ((binOp .neq t u .nilIface) = (do let c ← Op.equal t u .nilIface; pure (.bool (!c)))) := by
        unfold zhZ at hm
        split at hm
        · injection hm with hm; subst hm
          simp only [zc, zl] at hx
          subst hx
          refine ⟨by cases op <;> cases xo <;> rfl, fun d => by simp [Op.equalIn, run_underlying hu], rfl, rfl⟩
        · injection hm with hm; subst hm
          simp only [zc, zl] at hx
          subst hx
          refine ⟨by cases op <;> rfl, fun d => by simp [Op.equalIn, run_underlying hu], rfl, rfl⟩
        · cases hm
      obtain ⟨h1, h2, h3, h4⟩ := hq
      have h2' : (Op.equal t u .nilIface).run P w = .ok b w := h2 9999
      cases op <;> simp only [] at h ⊢ <;> first
        | exact h.elim
        | (refine ⟨.bool b, ?_, by simp only [zc, zl]⟩
           rw [Sem.run_bind, h1, Result.andThen_ok, h3, Sem.run_bind, h2']; rfl)
        | (refine ⟨.bool (!b), ?_, by simp only [zc, zl]⟩
           rw [Sem.run_bind, h1, Result.andThen_ok, h4, Sem.run_bind, h2']; rfl)
  · exact h.elim
theorem YI {P:Program} {op:BinOp} {t:TypeId} {x y:AV} {g:Gh} {w:World} {u v:Value} {yo:Operand}(xo:Operand)(hv:∀c,yo=.const c→v=c)(h:(zid P op t yo x y).1)
  (hx:zc g w x u) (hy:zc g w y v):
  ∃r,(do eqGuard op t xo yo u v;binOp op t u v:Sem Value).run P w=.ok r w∧zc g w (zid P op t yo x y).2 r:=by
 unfold zid at h⊢
 by_cases hn:zc3 yo=true
 ·rw[if_pos hn]at h⊢
  unfold zc3 at hn
  split at hn
  ·have:=hv _ rfl
   subst this
   exact zeA xo h hx
  ·cases hn
 ·rw[if_neg hn]at h⊢
  exact zfY xo yo h hx hy
end Go.AM
end
section
namespace Go.AM
def Ug(S:St):Option Operand→Prop×Option (Option Int)
 |none=>(True,some none)
 |some x=>match(unG (S.ev x)).2 with
  |.p (.int _ n)=>((unG (S.ev x)).1,some (some n))
  |_=>(False,none)
theorem Vw [Gi] {E:Ent} {S:St} {g:Gh} {a:Act} {w:World}(hS:SR E S g a w) {x:Option Operand} {b:Option Int}(h:(Ug S x).1)(e:(Ug S x).2=some b):vn b (x.map a.eval):=by
 cases x with
 |none=>simp only[Ug,Option.some.injEq]at e;subst e;trivial
 |some x=>
  unfold Ug at h e
  simp only[]at h e
  split at h
  ·rename_i k n h1
   simp only[h1,Option.some.injEq]at e
   subst e
   have:=zE h (hS.ev x)
   rw[h1]at this
   simp only[zc,zl]at this
   exact⟨k,this⟩
  ·exact h.elim
def zkJ:AV→Option (Tok×Nat)
 |.lp t o=>some (t,o)
 |_=>none
def zgA:TypeDesc→Option (Nat×TypeId)
 |.array n e=>some (n,e)
 |_=>none
def X6(P:Program)(S:St)(T:TypeId)(x:AV)(lo hi mx:Option Int):Option PR:=
 match zkJ x,(ty P T).bind fun T=>zgA T.desc with
 |some (t,o),some (n,e)=>
  match ty P e,zO S.rs t with
  |some et,some cs=>some ((0≤lo.getD 0∧lo.getD 0≤hi.getD n∧hi.getD n≤mx.getD n∧mx.getD n≤n∧(mx.isSome=true→hi.isSome=true)∧o+n*et.size≤cs.length),.la t et.size (o+(lo.getD 0).toNat*et.size) ((hi.getD n).toNat- (lo.getD 0).toNat))
  |_,_=>some bad
 |_,_=>none
def sliceB(P:Program)(S:St)(T:TypeId)(x:AV)(lo hi mx:Option Int):PR:=
 match X6 P S T x lo hi mx with
 |some r=>r
 |none=>vt P T x lo hi mx
theorem zcP [Gi] {P:Program} {E:Ent} {S:St} {g:Gh} {a:Act} {w:World}(hS:SR E S g a w) {T:TypeId} {x:AV} {lo hi mx:Option Int} {vl vh vm:Option Value} {v:Value}(h:(sliceB P S T x lo hi mx).1)(r:zc g w x v)
  (hl:vn lo vl) (hh:vn hi vh) (hm:vn mx vm):
  ∃u,(Instr.sliceAt T v vl vh vm).run P w=.ok u w∧zc g w (sliceB P S T x lo hi mx).2 u:=by
 unfold sliceB at h⊢
 cases hR:X6 P S T x lo hi mx with
 |none=>rw[hR]at h;exact zci h r hl hh hm
 |some q=>
  rw[hR]at h
  simp only at h⊢
  unfold X6 at hR
  split at hR
  ·rename_i t o n e hx hT
   split at hR
   ·rename_i et cs het hcs
    injection hR with hR;subst hR
    obtain⟨h0,h1,h2,h3,h4,h5⟩:=h
    simp only at h0 h1 h2 h3 h4 h5⊢
    simp only[Option.bind_eq_some_iff]at hT
    obtain⟨⟨d,sz,by_,ze⟩,hT,hd⟩:=hT
    unfold zgA at hd
    split at hd
    ·rename_i n' e' hd'
     injection hd with hd;injection hd with hd1 hd2;subst hd1;subst hd2
     simp only at hd'
     subst hd'
     unfold zkJ at hx
     split at hx
     ·rename_i tk off
      injection hx with hx;injection hx with hx1 hx2;subst hx1;subst hx2
      simp only[zc]at r⊢
      obtain⟨b,hk,rfl⟩:=r
      have hu:=zC w hT
      simp only[]at hu
      have hs:=qL w het
      have hb:=QZ (P:=P) (w:=w) false n' n' lo hi mx vl vh vm hl hh hm h4 h0 h1 (by omega) (by omega)
      obtain⟨cs',hl',_,arr,T0,hbl,hle,_⟩:=hS.roots b _ hk
      rw[hcs]at hl';injection hl' with hl';subst hl'
      generalize hL:(lo.getD 0).toNat=L at hb⊢
      generalize hH:(hi.getD n').toNat=H at hb⊢
      generalize hM:(mx.getD n').toNat=M at hb⊢
      refine⟨.slice (some ⟨b,(if M=L then off else off+L*et.size),none⟩) (H-L) (M-L),?_,b,(if M=L then off else off+L*et.size),M-L,hk,rfl,by omega,?_,?_⟩
      ·unfold Instr.sliceAt
       rw[Sem.run_bind,hu]
       simp only[Result.andThen_ok,Instr.sureAddr,Sem.run_bind,Sem.run_pure,hb,hs]
       congr 2
       by_cases e:M=L<;>simp[e,qH]
      ·by_cases e:M=L
       ·left;omega
       ·right;rw[if_neg e]
      ·have hM':M≤n':=by omega
       have hmul:M*et.size≤n'*et.size:=Nat.mul_le_mul_right _ hM'
       by_cases e:M=L
       ·rw[if_pos e,e,Nat.sub_self,Nat.zero_mul]
        exact⟨arr,T0,hbl,by omega⟩
       ·rw[if_neg e]
        refine⟨arr,T0,hbl,?_⟩
        rw[Nat.add_assoc,←Nat.add_mul]
        have:L+(M-L)=M:=by omega
        rw[this]
        omega
     ·cases hx
    ·cases hd
   ·injection hR with hR;subst hR;exact h.elim
  ·cases hR
def zcc(P:Program)(S:St)(T:TypeId)(x:Operand)(lo hi mx:Option Operand):PR:=
 match(Ug S lo).2,(Ug S hi).2,(Ug S mx).2 with
 |some l,some h,some m=>
  (((unG (S.ev x)).1∧(Ug S lo).1∧(Ug S hi).1∧(Ug S mx).1)∧(sliceB P S T (unG (S.ev x)).2 l h m).1,(sliceB P S T (unG (S.ev x)).2 l h m).2)
 |_,_,_=>bad
def Qu:AV→Bool
 |.p (.opq (.slice none 0 0))=>true
 |_=>false
def zpz:AV→Bool
 |.os _ _ _=>true
 |_=>false
def zdQ(P:Program)(s d:TypeId):Bool:=
 match ty P s,ty P d with
 |some a,some b=>(!(Wh a.desc) || uT b.desc)&& !(Wh b.desc)
 |_,_=>false
def un1(S:St)(x:Operand)(f:AV→PR):PR:=((unG (S.ev x)).1∧(f (unG (S.ev x)).2).1,(f (unG (S.ev x)).2).2)
def un2(S:St)(x y:Operand)(f:AV→AV→PR):PR:=
 (((unG (S.ev x)).1∧(unG (S.ev y)).1)∧(f (unG (S.ev x)).2 (unG (S.ev y)).2).1,(f (unG (S.ev x)).2 (unG (S.ev y)).2).2)
def um(S:St):List Operand→Prop×List AV
 | []=>(True,[])
 |x::l=>((unG (S.ev x)).1∧(um S l).1,(unG (S.ev x)).2::(um S l).2)
theorem Yx [Gi] {E:Ent} {S:St} {g:Gh} {a:Act} {w:World}(hS:SR E S g a w):∀{l:List Operand},(um S l).1→zt g w (um S l).2 (l.map a.eval)
 | [],_=>by simp[um,zt]
 |x::l,h=>by
  simp only[um,List.map_cons,zt]at h⊢
  exact⟨_,_,rfl,zE h.1 (hS.ev x),Yx hS h.2⟩
def Jf(P:Program)(S:St)(s d:TypeId)(x:AV):PR:=
 match x with
 |.la t z o n=>match zO S.rs t,ty P s,ty P d with
  |some cs,some A,some B=>match UL ((cs.drop o).take n)with
   |some ys=>((z=1∧ys.length=n∧(Ua P A.desc B.desc ys).1),(Ua P A.desc B.desc ys).2)
   |none=>bad
  |_,_,_=>bad
 |x=>zdY P s d x
theorem zaQ {fr:Nat→Nat} {w:World} {b:Nat}:∀{es:List PV} {t:List UInt8} {o:Nat},kV es=some t→(∀(j:Nat) (e:PV),es[j]?=some e→∃c,w.cell? ⟨b,o+j,none⟩=some c∧zl fr w e c)→
  ∃ns:List Int,ns.length=es.length∧(∀s:ByteArray,(ns.foldl (fun r n=>r.push (UInt8.ofNat n.toNat)) s).data.toList=s.data.toList++t)∧∀(j:Nat) (v:Value),(ns.map (Value.int .u8))[j]?=some v→w.cell? ⟨b,o+j,none⟩=some v
 | [],t,o,h,_=>by
  simp only[kV,Option.some.injEq]at h;subst h
  exact⟨[],rfl,fun s=>by simp,fun j v hj=>by simp at hj⟩
 |e::es,t,o,h,r=>by
  cases e with
  |int k n=>
   cases k with
   |u8=>
    simp only[kV,Option.map_eq_some_iff]at h
    obtain⟨t',h,rfl⟩:=h
    obtain⟨c,hc,r0⟩:=r 0 _ rfl
    simp only[zl]at r0
    subst r0
    obtain⟨ns,k1,k2,k3⟩:=zaQ (o:=o+1) h (fun j e hj=>by
     have:=r (j+1) e (by simpa using hj)
     rwa[show o+(j+1)=o+1+j from by omega]at this)
    refine⟨n::ns,by simp[k1],fun s=>?_,fun j v hj=>?_⟩
    ·rw[List.foldl_cons,k2];simp
    ·cases j with
     |zero=>
      simp at hj;subst hj
      exact hc
     |succ j=>
      have:=k3 j v (by simpa using hj)
      rwa[show o+1+j=o+(j+1)from by omega]at this
   |_=>simp[kV]at h
  |_=>simp[kV]at h
theorem zed [Gi] {P:Program} {E:Ent} {S:St} {g:Gh} {a:Act} {w:World}(hS:SR E S g a w) {s d:TypeId} {x:AV} {v:Value}(h:(Jf P S s d x).1)(r:zc g w x v):
  ∃u,(convert s d v).run P w=.ok u w∧zc g w (Jf P S s d x).2 u:=by
 unfold Jf at h⊢
 split at h
 ·rename_i t z o n
  split at h
  ·rename_i cs A B hl hA hB
   split at h
   ·rename_i ys hy
    obtain⟨rfl,hn,hc⟩:=h
    simp only
    simp only[zc]at r
    obtain⟨b,o',cap,hk,rfl,_,ho,_⟩:=r
    obtain⟨cs',hl',_,arr,T,hb,_,hcs⟩:=hS.roots b t hk
    obtain rfl:cs=cs':=Option.some.inj (hl.symm.trans hl')
    have he:=Wu hy
    unfold Ua at hc⊢
    split at hc
    ·rename_i e tx hs ht
     split at hc
     ·rename_i E' hE
      obtain⟨h1,h2,h3⟩:=hc
      have hpos:n≠0:=fun e0=>h2 (List.eq_nil_of_length_eq_zero (by omega))
      obtain rfl:o'=o:=ho.resolve_left hpos
      obtain⟨ns,k1,k2,k3⟩:=zaQ (fr:=g.fr) (w:=w) (b:=b) (o:=o') ht (fun j y hj=>by
       have hjn:j<n:=by have:=(List.getElem?_eq_some_iff.1 hj).1;omega
       have h4:=congrArg (·[j]?) he
       simp only[List.getElem?_take,hjn,if_true,List.getElem?_drop,List.getElem?_map,hj,Option.map_some]at h4
       obtain⟨u,hu,_,hr⟩:=hcs (o'+j) _ h4
       exact⟨u,by rw[World.cell?_of_block (show w.heap[b]?=w.heap[b]? from rfl)];simp only[World.cell?,hb];exact hu,by simpa only[zc]using hr⟩)
      have hs':P.underlying s=some A.desc:=(Zn hA).choose_spec.2.1
      have hd':P.underlying d=some B.desc:=(Zn hB).choose_spec.2.1
      have he':P.underlying e=some E'.desc:=(Zn hE).choose_spec.2.1
      rw[hs]at hs';rw[h3]at hd';rw[h1]at he'
      have hload:(loadCells ⟨b,o',none⟩ n).run P w=.ok (ns.map (Value.int .u8)).toArray w:=by
       have:=run_loadCells_list (P:=P) w ⟨b,o',none⟩ (ns.map (Value.int .u8)) (fun j v hj=>by rw[qH];exact k3 j v hj)
       simpa[k1,hn]using this
      refine⟨_,(run_convert_bytes_string w s d e _ _ _ hs' he' hd').trans (run_bytesToString w _ _ _ ns hload),?_⟩
      simp only[zc,zl]
      congr 1
      have:=k2 ByteArray.empty
      apply ByteArray.ext
      apply Array.toList_inj.1
      simpa using this
     ·exact hc.elim
    ·exact hc.elim
   ·exact h.elim
  ·exact h.elim
 ·rename_i x _
  exact zex h r
def ZI(P:Program)(S:St)(o:Oper):Option PR:=
 match o.op with
 |.move x=>some (unG (S.ev x))
 |.assign x=>if zpz (S.ev x) || Qu (S.ev x)then none else some (unG (S.ev x))
 |.pick c x y=>some (un1 S c fun c=>zdF c (S.ev x) (S.ev y))
 |.nilCheck x=>some (un1 S x KQ)
 |.binOp op t x y _=>some (un2 S x y (zid P op t y))
 |.unOp op _ x=>some (un1 S x (unA op))
 |.convert s d x=>if zdQ P s d then some (un1 S x (Jf P S s d))else none
 |.slice T x lo hi mx=>some (zcc P S T x lo hi mx)
 |.fieldAddr T x f=>some (un1 S x fun x=>kh P T x f)
 |.field T x f=>some (un1 S x fun x=>XV P T x f)
 |.indexAddr T x i=>some (un2 S x i (j6 P T))
 |.index T x i=>some (un2 S x i (Xy P T))
 |.extract x i=>some (un1 S x fun x=>uZ x i)
 |.lookup T x k ok=>some (un2 S x k fun x k=>Zw P T x k ok)
 |.load t x=>some (un1 S x (yW P S t))
 |.build T parts=>some (KB P S T parts.toList)
 |.makeFunc (.func f) first caps=>if first.size=0 then some ((um S caps.toList).1,.fn f (um S caps.toList).2)else none
 |.call c=>
  match c.callee,c.args.toList,c.argTypes.toList with
  |.builtin .len,[x],[T]=>some (un1 S x (zl0 P T))
  |.builtin .min,[x,y],_=>some (un2 S x y (Wr false))
  |.builtin .max,[x,y],_=>some (un2 S x y (Wr true))
  |_,_,_=>none
 |_=>none
theorem qp {P:Program} {w w':World} {s:Sem Value} {u:Value}(h:s.run P w=.ok u w'):(do pure (Next.value (←s)):Sem Next).run P w=.ok (.value u) w':=by
 rw[Sem.run_bind,h];rfl
theorem ZO [Gi] {P:Program} {E:Ent} {S:St} {g:Gh} {a:Act} {w:World}(hS:SR E S g a w) {o:Oper} {r:PR}(e:ZI P S o=some r)(h:r.1):
  ∃v,(execOp a.eval o).run P w=.ok (.value v) w∧zc g w r.2 v:=by
 have k1:∀(x:Operand) (f:AV→PR) (sem:Value→Sem Value),(∀y v,(f y).1→zc g w y v→∃u,(sem v).run P w=.ok u w∧zc g w (f y).2 u)→(un1 S x f).1→
   ∃v,(do pure (Next.value (←sem (a.eval x))):Sem Next).run P w=.ok (.value v) w∧zc g w (un1 S x f).2 v:=by
  intro x f sem hf hh
  obtain⟨u,h1,h2⟩:=hf _ _ hh.2 (zE hh.1 (hS.ev x))
  exact⟨u,qp h1,h2⟩
 have k2:∀(x y:Operand) (f:AV→AV→PR) (sem:Value→Value→Sem Value),(∀p q v u,(f p q).1→zc g w p v→zc g w q u→∃r,(sem v u).run P w=.ok r w∧zc g w (f p q).2 r)→(un2 S x y f).1→
   ∃v,(do pure (Next.value (←sem (a.eval x) (a.eval y))):Sem Next).run P w=.ok (.value v) w∧zc g w (un2 S x y f).2 v:=by
  intro x y f sem hf hh
  obtain⟨u,h1,h2⟩:=hf _ _ _ _ hh.2 (zE hh.1.1 (hS.ev x)) (zE hh.1.2 (hS.ev y))
  exact⟨u,qp h1,h2⟩
 obtain⟨dst,op,tt,pos,after,guard⟩:=o
 unfold ZI at e
 cases op with
 |move x=>
  simp only[Option.some.injEq]at e;subst e
  exact⟨_,rfl,zE h (hS.ev x)⟩
 |assign x=>
  simp only[]at e
  split at e
  ·cases e
  ·simp only[Option.some.injEq]at e;subst e
   exact⟨_,rfl,zE h (hS.ev x)⟩
 |pick c x y=>
  simp only[Option.some.injEq]at e;subst e
  obtain⟨v,h1,h2⟩:=zeN (P:=P) h.2 (zE h.1 (hS.ev c)) (hS.ev x) (hS.ev y)
  exact⟨v,h1,h2⟩
 |nilCheck x=>
  simp only[Option.some.injEq]at e;subst e
  have hr:=zE h.1 (hS.ev x)
  have hh:=h.2
  unfold un1
  have go:∀v,a.eval x=v→((∃b o,v=.pointer (some ⟨b,o,none⟩))∨∃f p q,v=.func (.func f) p q)→
    (execOp a.eval {dst:=dst,op:=Op.nilCheck x,type:=tt,pos:=pos,after:=after,guard:=guard}).run P w=.ok (.value v) w:=by
   intro v hv hc
   simp only[execOp,hv]
   rcases hc with ⟨b,o,rfl⟩|⟨f,p,q,rfl⟩<;>rfl
  revert hr hh
  generalize (unG (S.ev x)).2=y
  intro hr hh
  unfold KQ at hh⊢
  split at hh
  ·have hr':=hr
   simp only[zc]at hr'
   obtain⟨b,_,hv⟩:=hr'
   exact⟨_,go _ rfl (.inl ⟨b,_,hv⟩),hr⟩
  ·have hr':=hr
   simp only[zc]at hr'
   obtain⟨b,base,hv,_⟩:=hr'
   exact⟨_,go _ rfl (.inl ⟨b,_,hv⟩),hr⟩
  ·have hr':=hr
   simp only[zc,zl]at hr'
   obtain⟨b,base,hv,hf,u,h1,h2,h3⟩:=hr'
   exact⟨_,go _ rfl (.inl ⟨b,_,hv⟩),by simp only[zc,qK,and_true];exact⟨b,base,hv,hf,u,h1,h2,h3⟩⟩
  ·have hr':=hr
   simp only[zc,zl]at hr'
   exact⟨_,go _ rfl (.inr ⟨_,_,_,hr'⟩),hr⟩
  ·exact hh.elim
 |binOp op t x y yt=>
  simp only[Option.some.injEq]at e;subst e
  obtain⟨u,h1,h2⟩:=YI (v:=a.eval y) x (fun c e=>by rw[e];rfl) h.2 (zE h.1.1 (hS.ev x)) (zE h.1.2 (hS.ev y))
  exact⟨u,qp h1,h2⟩
 |unOp op t x=>
  simp only[Option.some.injEq]at e;subst e
  exact k1 x _ (fun v=>Op.unary op v) (fun y v=>zin) h
 |convert s d x=>
  simp only[]at e
  split at e
  ·simp only[Option.some.injEq]at e;subst e
   exact k1 x _ (fun v=>convert s d v) (fun y v=>zed hS) h
  ·cases e
 |slice T x lo hi mx=>
  simp only[Option.some.injEq]at e;subst e
  unfold zcc at h⊢
  split at h
  ·rename_i l hh m h1 h2 h3
   obtain⟨⟨c0,c1,c2,c3⟩,c4⟩:=h
   simp only
   obtain⟨u,hu,hr⟩:=zcP (P:=P) hS c4 (zE c0 (hS.ev x)) (Vw hS c1 h1) (Vw hS c2 h2) (Vw hS c3 h3)
   exact⟨u,qp hu,hr⟩
  ·exact h.elim
 |fieldAddr T x f=>
  simp only[Option.some.injEq]at e;subst e
  exact k1 x _ (fun v=>Instr.fieldAt T v f) (fun y v=>Kk) h
 |field T x f=>
  simp only[Option.some.injEq]at e;subst e
  exact k1 x _ (fun v=>Instr.field T v f) (fun y v=>zcp) h
 |indexAddr T x i=>
  simp only[Option.some.injEq]at e;subst e
  exact k2 x i _ (fun u v=>Instr.indexAt T u v) (fun p q v u=>Kq) h
 |index T x i=>
  simp only[Option.some.injEq]at e;subst e
  exact k2 x i _ (fun u v=>Instr.index T u v) (fun p q v u=>zcs) h
 |extract x i=>
  simp only[Option.some.injEq]at e;subst e
  exact k1 x _ (fun v=>Instr.extract v i) (fun y v=>zad) h
 |lookup T x k ok=>
  simp only[Option.some.injEq]at e;subst e
  exact k2 x k _ (fun u v=>Instr.lookup T u v ok) (fun p q v u=>zax) h
 |load t x=>
  simp only[Option.some.injEq]at e;subst e
  exact k1 x _ (fun v=>Instr.loadAt t v) (fun y v=>uy hS) h
 |build T parts=>
  simp only[Option.some.injEq]at e;subst e
  obtain⟨u,hu,hr⟩:=zcR (P:=P) hS h
  exact⟨u,qp hu,hr⟩
 |makeFunc fn first caps=>
  cases fn with
  |func f=>
   simp only[]at e
   split at e
   ·rename_i h0
    simp only[Option.some.injEq]at e;subst e
    have hf:first= #[]:=Array.eq_empty_of_size_eq_zero (by assumption)
    subst hf
    refine⟨.func (.func f) #[] (caps.map a.eval),by simp[execOp,Instr.makeFunc],?_⟩
    simp only[zc]
    refine⟨_,rfl,?_⟩
    have:=Yx hS h
    simpa using this
   ·cases e
  |_=>cases e
 |call c=>
  obtain⟨callee,args,argTypes⟩:=c
  simp only[]at e
  split at e
  ·rename_i x T h1 h2
   simp only[Option.some.injEq]at e;subst e
   have ha:args= #[x]:=by rw[←Array.toArray_toList (xs:=args),h1]
   have ht:argTypes= #[T]:=by rw[←Array.toArray_toList (xs:=argTypes),h2]
   subst ha;subst ht
   obtain⟨u,hu,hr⟩:=zgE (P:=P) (T:=T) (tt:=tt) (ts:= #[T]) (args:= #[x].map a.eval) rfl (by simp) h.2 (zE h.1 (hS.ev x))
   exact⟨u,qp hu,hr⟩
  ·rename_i x y h1
   simp only[Option.some.injEq]at e;subst e
   have ha:args= #[x,y]:=by rw[←Array.toArray_toList (xs:=args),h1]
   subst ha
   obtain⟨u,hu,hr⟩:=Vi (P:=P) (ts:=argTypes) (tt:=tt) h.2 (zE h.1.1 (hS.ev x)) (zE h.1.2 (hS.ev y))
   refine⟨u,qp ?_,hr⟩
   have hm:Array.map a.eval #[x,y]= #[a.eval x,a.eval y]:=by simp
   simp only[hm]
   simpa using hu
  ·rename_i x y h1
   simp only[Option.some.injEq]at e;subst e
   have ha:args= #[x,y]:=by rw[←Array.toArray_toList (xs:=args),h1]
   subst ha
   obtain⟨u,hu,hr⟩:=Vi (P:=P) (ts:=argTypes) (tt:=tt) h.2 (zE h.1.1 (hS.ev x)) (zE h.1.2 (hS.ev y))
   refine⟨u,qp ?_,hr⟩
   have hm:Array.map a.eval #[x,y]= #[a.eval x,a.eval y]:=by simp
   simp only[hm]
   simpa using hu
  ·cases e
 |_=>cases e
end Go.AM
end
