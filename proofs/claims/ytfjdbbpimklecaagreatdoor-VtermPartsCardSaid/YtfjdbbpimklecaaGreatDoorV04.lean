/- A part of this seat's proofs, by an abstract machine. Conditions: each law's. -/
import Derived.Test.YtfjdbbpimklecaaGreatDoorV03
import Derived.MapKept
namespace Go.AM
section
def qq(key:List PV):List PV→List PV→Nat→Option (Nat×PV)
 |k::ks,x::xs,i=>if eqC key k.cells then some (i,x)else qq key ks xs (i+1)
 |_,_,_=>none
theorem zcX {P:Program} {fr:Nat→Nat} {w:World} {kt:TypeId} {ag:Bool} {kc:List Kc}(hk:Ze P kt=some (ag,kc)) {k1 k2:PV}(h1:ZB ag kc k1=true)(h2:ZB ag kc k2=true) {u v:Value}(r1:zi fr w k1 u)(r2:zi fr w k2 v):
  (Op.equal kt u v).run P w=.ok (eqC k1.cells k2.cells) w:=by
 obtain⟨h8,_⟩:=Qy hk
 obtain⟨cs,a1,a2,_⟩:=Qv hk h1 r1
 obtain⟨ds,b1,b2,_⟩:=Qv hk h2 r2
 exact vP 9992 8 kt kc _ _ u v cs ds h8 (zJ h1).2 (zJ h2).2 a1 b1 a2 b2
def Found(fr:Nat→Nat)(w:World)(key:PV)(es:List MapEntry)(ks xs:List PV)(i:Nat)(r:Option (Nat×Value)):Prop:=
 (qq key.cells ks xs i=none∧r=none)∨∃j x v,qq key.cells ks xs i=some (j,x)∧r=some (j,v)∧zi fr w x v∧i≤j∧xs[j-i]?=some x∧∃e,es[j-i]?=some e∧∃k,ks[j-i]?=some k∧eqC key.cells k.cells=true
theorem Found.cons {fr:Nat→Nat} {w:World} {key:PV} {e:MapEntry} {es:List MapEntry} {k x:PV} {ks xs:List PV} {i:Nat} {r:Option (Nat×Value)}(hc:eqC key.cells k.cells=false)(h:Found fr w key es ks xs (i+1) r):Found fr w key (e::es) (k::ks) (x::xs) i r:=by
 unfold Found
 simp only[qq,hc,Bool.false_eq_true,if_false]
 refine h.imp id ?_
 rintro⟨j,y,v,a1,a2,a3,a4,a5,e',a6,k',a7,a8⟩
 have hj:j-i=(j- (i+1))+1:=by omega
 exact⟨j,y,v,a1,a2,a3,by omega,by rw[hj];simpa using a5,e',by rw[hj];simpa using a6,k',by rw[hj];simpa using a7,a8⟩
theorem Found.here {fr:Nat→Nat} {w:World} {key:PV} {e:MapEntry} {es:List MapEntry} {k x:PV} {ks xs:List PV} {i:Nat}(hc:eqC key.cells k.cells=true)(h:zi fr w x e.val):Found fr w key (e::es) (k::ks) (x::xs) i (some (i,e.val)):=by
 unfold Found
 simp only[qq,hc,if_true]
 exact .inr ⟨i,x,e.val,rfl,rfl,h,Nat.le_refl _,by simp,e,by simp,k,by simp,hc⟩
theorem Found.none {fr:Nat→Nat} {w:World} {key:PV} {ks xs:List PV} {i:Nat}(rk:qp fr w ks (([]:List MapEntry).map (·.key))):Found fr w key [] ks xs i none:=by
 cases ks with
 |nil=>exact .inl ⟨by simp[qq],rfl⟩
 |cons k ks=>simp only[List.map_nil,qp]at rk;obtain⟨_,_,e,_⟩:=rk;cases e
theorem wg {fr:Nat→Nat} {w:World} {l:List PV} {v:Value} {vs:List Value}(r:qp fr w l (v::vs)):∃x l',l=x::l'∧zi fr w x v∧qp fr w l' vs:=by
 cases l with
 |nil=>simp only[qp]at r;cases r
 |cons x l=>
  simp only[qp]at r
  obtain⟨u,us,e,h1,h2⟩:=r
  injection e with e1 e2;subst e1;subst e2
  exact⟨x,l,rfl,h1,h2⟩
theorem yj {P:Program} {fr:Nat→Nat} {w:World} {kt:TypeId} {ag:Bool} {kc:List Kc}(hk:Ze P kt=some (ag,kc)) {key:PV} {u:Value}(h1:ZB ag kc key=true)(r1:zi fr w key u):
  ∀{es:List MapEntry} {ks xs:List PV} (i:Nat),ks.all (ZB ag kc)=true→qp fr w ks (es.map (·.key))→qp fr w xs (es.map (·.val))→
   ∃r,(Instr.findAsking kt u es i).run P w=.ok r w∧Found fr w key es ks xs i r
 | [],ks,xs,i,_,rk,rx=>⟨none,rfl,Found.none rk⟩
 |e::es,ks,xs,i,ho,rk,rx=>by
  simp only[List.map_cons]at rk rx
  obtain⟨k,ks,rfl,rk1,rk2⟩:=wg rk
  obtain⟨x,xs,rfl,rx1,rx2⟩:=wg rx
  simp only[List.all_cons,Bool.and_eq_true]at ho
  have he:=zcX (P:=P) hk h1 ho.1 r1 rk1
  unfold Instr.findAsking
  simp only[Sem.run_bind,he,Result.andThen_ok]
  cases hc:eqC key.cells k.cells with
  |true=>exact⟨some (i,e.val),rfl,Found.here hc rx1⟩
  |false=>
   obtain⟨r,hr,h⟩:=yj hk h1 r1 (es:=es) (ks:=ks) (xs:=xs) (i+1) ho.2 rk2 rx2
   exact⟨r,hr,Found.cons hc h⟩
theorem XR {T:TypeDesc}(h:zW T=true)(u v:Value):Instr.sameNow T u v=none:=by
 cases T<;>simp[zW]at h<;>rfl
theorem XD {P:Program} {fr:Nat→Nat} {w:World} {kt:TypeId} {kc:List Kc} {T:TypeDesc}(hk:Ze P kt=some (false,kc))(hT:P.underlying kt=some T) {k1 k2:PV}(h1:ZB false kc k1=true)(h2:ZB false kc k2=true) {u v:Value}(r1:zi fr w k1 u)(r2:zi fr w k2 v):
  Instr.sameNow T u v=some (eqC k1.cells k2.cells):=by
 have b1:=(zJ h1).2
 have b2:=(zJ h2).2
 have a1:=(zJ h1).1
 have a2:=(zJ h2).1
 unfold Ze at hk
 rw[hT]at hk
 split at hk
 ·rename_i e;injection e with e;subst e
  injection hk with hk;injection hk with _ hk;subst hk
  cases k1<;>simp[vi,PV.cells,okC]at a1 b1
  cases k2<;>simp[vi,PV.cells,okC]at a2 b2
  simp only[zi]at r1 r2
  subst r1;subst r2
  simp[Instr.sameNow,PV.cells,eqC]
 ·rename_i k e;injection e with e;subst e
  injection hk with hk;injection hk with _ hk;subst hk
  cases k1<;>simp[vi,PV.cells,okC]at a1 b1
  cases k2<;>simp[vi,PV.cells,okC]at a2 b2
  subst b1;subst b2
  simp only[zi]at r1 r2
  subst r1;subst r2
  simp[Instr.sameNow,PV.cells,eqC,Vz]
 ·rename_i e;injection e with e;subst e
  injection hk with hk;injection hk with _ hk;subst hk
  cases k1<;>simp[vi,PV.cells,okC]at a1 b1
  cases k2<;>simp[vi,PV.cells,okC]at a2 b2
  simp only[zi]at r1 r2
  subst r1;subst r2
  rename_i p q
  have:((⟨p.toArray⟩:ByteArray)==⟨q.toArray⟩)=decide (p=q):=by
   rw[beq_toListBytes,Vz]
   simp[ByteArray.toList_eq]
  simp[Instr.sameNow,PV.cells,eqC,this]
 ·rw[Option.map_eq_some_iff]at hk
  obtain⟨_,_,e⟩:=hk
  cases e
theorem wL {P:Program} {fr:Nat→Nat} {w:World} {kt:TypeId} {kc:List Kc} {T:TypeDesc}(hk:Ze P kt=some (false,kc))(hT:P.underlying kt=some T) {key:PV} {u:Value}(h1:ZB false kc key=true)(r1:zi fr w key u):
  ∀{es:List MapEntry} {ks xs:List PV} (i:Nat),ks.all (ZB false kc)=true→qp fr w ks (es.map (·.key))→qp fr w xs (es.map (·.val))→
   ∃r,Instr.findNow T u es i=some r∧Found fr w key es ks xs i r
 | [],ks,xs,i,_,rk,rx=>⟨none,rfl,Found.none rk⟩
 |e::es,ks,xs,i,ho,rk,rx=>by
  simp only[List.map_cons]at rk rx
  obtain⟨k,ks,rfl,rk1,rk2⟩:=wg rk
  obtain⟨x,xs,rfl,rx1,rx2⟩:=wg rx
  simp only[List.all_cons,Bool.and_eq_true]at ho
  have he:=XD (P:=P) hk hT h1 ho.1 r1 rk1
  unfold Instr.findNow
  rw[he]
  cases hc:eqC key.cells k.cells with
  |true=>exact⟨some (i,e.val),rfl,Found.here hc rx1⟩
  |false=>
   obtain⟨r,hr,h⟩:=wL hk hT h1 r1 (es:=es) (ks:=ks) (xs:=xs) (i+1) ho.2 rk2 rx2
   exact⟨r,hr,Found.cons hc h⟩
theorem Q4 {P:Program} {fr:Nat→Nat} {w:World} {kt:TypeId} {ag:Bool} {kc:List Kc}(hk:Ze P kt=some (ag,kc)) {key:PV} {u:Value}(h1:ZB ag kc key=true)(r1:zi fr w key u)
  {es:List MapEntry} {ks xs:List PV} (ho:ks.all (ZB ag kc)=true) (rk:qp fr w ks (es.map (·.key))) (rx:qp fr w xs (es.map (·.val))):
   ∃r,(Instr.findKey kt u es).run P w=.ok r w∧Found fr w key es ks xs 0 r:=by
 obtain⟨h8,T,hT,hA,_⟩:=Qy hk
 unfold Instr.findKey
 simp only[Sem.run_bind,run_underlying hT,Result.andThen_ok]
 cases es with
 |nil=>exact⟨none,by simp[Instr.findNow],Found.none rk⟩
 |cons e es=>
  cases ag with
  |true=>
   have hn:Instr.findNow T u (e::es) 0=none:=by simp[Instr.findNow,XR hA]
   rw[hn]
   exact yj (P:=P) hk h1 r1 (es:=e::es) 0 ho rk rx
  |false=>
   obtain⟨r,hr,h⟩:=wL (P:=P) hk hT h1 r1 (es:=e::es) 0 ho rk rx
   rw[hr]
   exact⟨r,rfl,h⟩
def mapOf:AV→Option (List PV×List PV)
 |.p (.mp ks xs)=>some (ks,xs)
 |.om _ ks xs=>some (ks,xs)
 |.p (.opq (.map none))=>some ([],[])
 |_=>none
theorem zbw {g:Gh} {w:World} {x:AV} {v:Value} {ks xs:List PV}(h:mapOf x=some (ks,xs))(r:za g w x v):
  (v=.map none∧ks=[]∧xs=[])∨∃b arr c,v=.map (some b)∧w.heap[b]?=some (.map arr c)∧qp g.fr w ks (arr.toList.map (·.key))∧qp g.fr w xs (arr.toList.map (·.val)):=by
 have at_:∀{b:Nat} {arr:Array MapEntry} {c:Nat},ZV w b=some (arr,c)→w.heap[b]?=some (.map arr c):=by
  intro b arr c h
  exact(Qt h).1
 unfold mapOf at h
 split at h
 ·injection h with h;injection h with h1 h2;subst h1;subst h2
  simp only[za,zi]at r
  obtain⟨b,arr,c,e,_,hm,r1,r2⟩:=r
  exact .inr ⟨b,arr,c,e,at_ hm,r1,r2⟩
 ·injection h with h;injection h with h1 h2;subst h1;subst h2
  simp only[za]at r
  obtain⟨b,arr,c,e,_,_,hm,r1,r2⟩:=r
  exact .inr ⟨b,arr,c,e,at_ hm,r1,r2⟩
 ·injection h with h;injection h with h1 h2;subst h1;subst h2
  simp only[za,zi]at r
  exact .inl ⟨r,rfl,rfl⟩
 ·cases h
def Z6(z:PV):Option (Nat×PV)→PV
 |some (_,x)=>x
 |none=>z
def qU(P:Program)(T:TypeId)(x k:AV)(ok:Bool):PR:=
 match ty P T with
 |some ⟨.map kt et,_,_,_⟩=>
  match Ze P kt,UR P et,k,mapOf x with
  |some (ag,kc),some z,.p key,some (ks,xs)=>
   ((ZB ag kc key=true∧ks.all (ZB ag kc)=true),if ok then .tup [.p (Z6 z (qq key.cells ks xs 0)),.p (.bool (qq key.cells ks xs 0).isSome)]else .p (Z6 z (qq key.cells ks xs 0)))
  |_,_,_,_=>bad
 |_=>bad
theorem U9 {P:Program} {T:TypeId} {x k:AV} {ok:Bool} {g:Gh} {w:World} {v u:Value}(h:(qU P T x k ok).1)(rx:za g w x v)(rk:za g w k u):
  ∃r,(Instr.lookup T v u ok).run P w=.ok r w∧za g w (qU P T x k ok).2 r:=by
 unfold qU at h⊢
 split at h
 ·rename_i kt et sz by_ ze hT
  have hu:=zo w hT
  simp only[]at hu
  split at h
  ·rename_i ag kc z key ks xs hk hz hm
   simp only[za]at rk
   obtain⟨h8,_⟩:=Qy hk
   obtain⟨cs,a1,a2,_⟩:=Qv hk h.1 rk
   obtain⟨zv,hz1,hz2⟩:=KC hz g.fr w
   have fin:∀(y:Value) (b:Bool),zi g.fr w (Z6 z (qq key.cells ks xs 0)) y→b=(qq key.cells ks xs 0).isSome→za g w (if ok then AV.tup [.p (Z6 z (qq key.cells ks xs 0)),.p (.bool (qq key.cells ks xs 0).isSome)]else .p (Z6 z (qq key.cells ks xs 0))) (if ok then .tuple #[y,.bool b]else y):=by
    intro y b hy hb
    subst hb
    cases ok
    ·simp only[Bool.false_eq_true,if_false,za];exact hy
    ·simp only[if_true,za,zm]
     exact⟨_,rfl,y,[.bool _],rfl,hy,.bool _,[],rfl,by simp only[zi],rfl⟩
   have hck:∀em,(Instr.checkKey em 10000 kt u).run P w=.ok () w:=fun em=>kQ em 9992 8 kt kc _ u cs h8 (zJ h.1).2 a1 a2
   rcases zbw hm rx with ⟨rfl,rfl,rfl⟩|⟨b,arr,c,rfl,hb,r1,r2⟩
   ·obtain⟨r,hr,hf⟩:=Q4 (P:=P) (es:=[]) (ks:=[]) (xs:=[]) hk h.1 rk h.2 (by simp[qp]) (by simp[qp])
    rcases hf with ⟨hf,rfl⟩|⟨j,y,yv,hf,_⟩
    ·refine⟨_,?_,fin zv false (by rw[hf];exact hz2) (by rw[hf];rfl)⟩
     unfold Instr.lookup
     simp only[Sem.run_bind,hu,Result.andThen_ok,Sem.run_pure,hck,hr,hz1]
    ·simp[qq]at hf
   ·obtain⟨r,hr,hf⟩:=Q4 (P:=P) hk h.1 rk h.2 r1 r2
    rcases hf with ⟨hf,rfl⟩|⟨j,y,yv,hf,rfl,hy,_⟩
    ·refine⟨_,?_,fin zv false (by rw[hf];exact hz2) (by rw[hf];rfl)⟩
     unfold Instr.lookup
     simp only[Sem.run_bind,hu,Result.andThen_ok,Sem.run_pure,MapKept.run_getObj_map hb,hck,hr,hz1]
    ·refine⟨_,?_,fin yv true (by rw[hf];exact hy) (by rw[hf];rfl)⟩
     unfold Instr.lookup
     simp only[Sem.run_bind,hu,Result.andThen_ok,Sem.run_pure,MapKept.run_getObj_map hb,hck,hr]
  ·exact h.elim
 ·exact h.elim
def VW:AV→Option Bool
 |.p (.mp _ _)=>some false
 |.om _ _ _=>some false
 |.p (.opq (.map none))=>some true
 |_=>none
theorem X7 {g:Gh} {w:World} {x:AV} {v:Value} {b:Bool}(h:VW x=some b)(r:za g w x v):∃p:Option Nat,v=.map p∧p.isNone=b:=by
 unfold VW at h
 split at h
 ·injection h with h;subst h
  simp only[za,zi]at r;obtain⟨b,_,_,e,_⟩:=r;exact⟨_,e,rfl⟩
 ·injection h with h;subst h
  simp only[za]at r;obtain⟨b,_,_,e,_⟩:=r;exact⟨_,e,rfl⟩
 ·injection h with h;subst h
  simp only[za,zi]at r;exact⟨_,r,rfl⟩
 ·cases h
def zf6(P:Program)(op:BinOp)(t:TypeId)(x:AV):PR:=
 match ty P t with
 |some ⟨.map _ _,_,_,_⟩=>
  match VW x,op with
  |some b,.eql=>(True,.p (.bool b))
  |some b,.neq=>(True,.p (.bool (!b)))
  |_,_=>bad
 |_=>bad
def uk:AV→Bool
 |.p (.opq (.map none))=>true
 |_=>false
def Xw:AV→Option Bool
 |.p (.opq (.slice none 0 0))=>some true
 |.p (.sl _ (_::_))=>some false
 |.os _ _ (_::_)=>some false
 |.la _ _ _ _=>some false
 |_=>none
theorem zby {g:Gh} {w:World} {x:AV} {v:Value} {b:Bool}(h:Xw x=some b)(r:za g w x v):∃p l c,v=.slice p l c∧p.isNone=b:=by
 have key:∀(fr:Nat→Nat) (z:Nat) (e:PV) (es:List PV),zi fr w (.sl z (e::es)) v→∃p l c,v=.slice p l c∧p.isNone=false:=fun fr z e es r=>by
  simp only[zi]at r
  rcases r with ⟨h,_⟩|⟨_,_,_,rfl,_⟩
  ·cases h
  ·exact⟨_,_,_,rfl,rfl⟩
 unfold Xw at h
 split at h
 ·injection h with h;subst h
  simp only[za,zi]at r;exact⟨_,_,_,r,rfl⟩
 ·injection h with h;subst h
  simp only[za]at r;exact key _ _ _ _ r
 ·injection h with h;subst h
  simp only[za]at r;exact key _ _ _ _ r.1
 ·injection h with h;subst h
  simp only[za]at r;obtain⟨_,_,_,_,e,_⟩:=r;exact⟨_,_,_,e,rfl⟩
 ·cases h
def zfQ(P:Program)(op:BinOp)(t:TypeId)(x:AV):PR:=
 match ty P t with
 |some ⟨.slice _,_,_,_⟩=>
  match Xw x,op with
  |some b,.eql=>(True,.p (.bool b))
  |some b,.neq=>(True,.p (.bool (!b)))
  |_,_=>bad
 |_=>bad
def vU:AV→Bool
 |.p (.opq (.slice none 0 0))=>true
 |_=>false
def zd7(P:Program)(op:BinOp)(t:TypeId)(x y:AV):PR:=if uk y then zf6 P op t x else if vU y then zfQ P op t x else zfb P op t x y
theorem zaI {P : Program} {op : BinOp} {t : TypeId} {x y : AV} {g : Gh} {w : World} {u v : Value} (xo yo : Operand) (h : (zd7 P op t x y).1)
    (hx : za g w x u) (hy : za g w y v) :
    ∃ r, (do eqGuard op t xo yo u v; binOp op t u v : Sem Value).run P w = .ok r w ∧ za g w (zd7 P op t x y).2 r := by
  unfold zd7 at h ⊢
  by_cases hn : uk y = true
  · rw [if_pos hn] at h ⊢
    unfold uk at hn
    split at hn
    · simp only [za, zi] at hy
      subst hy
      unfold zf6 at h ⊢
      split at h
      · rename_i kt et _ _ _ hT
        have hu : P.underlying t = some (.map kt et) := by obtain ⟨_, _, hu, _⟩ := qK hT; exact hu
        cases hm : VW x with
        | none => rw [hm] at h; exact h.elim
        | some b =>
          rw [hm] at h
          obtain ⟨p, rfl, hp⟩ := X7 hm hx
          have e00 : ∀ d, (Op.equalIn (d + 1) t (.map p) (.map none)).run P w = .ok p.isNone w := fun d => by
            cases p <;> simp [Op.equalIn, run_underlying hu]
          have e0 : (Op.equal t (.map p) (.map none)).run P w = .ok p.isNone w := e00 9999
          have e1 : binOp .eql t (.map p) (.map none) = (do let c ← Op.equal t (.map p) (.map none); pure (.bool c)) := by cases p <;> rfl
          have e2 : binOp .neq t (.map p) (.map none) = (do let c ← Op.equal t (.map p) (.map none); pure (.bool (!c))) := by cases p <;> rfl
          cases op <;> simp only [] at h ⊢ <;> first
            | exact h.elim
            | (refine ⟨.bool b, ?_, by simp only [za, zi]⟩
               rw [Sem.run_bind, QK (by simp) (by simp), Result.andThen_ok, e1, Sem.run_bind, e0, hp]; rfl)
            | (refine ⟨.bool (!b), ?_, by simp only [za, zi]⟩
               rw [Sem.run_bind, QK (by simp) (by simp), Result.andThen_ok, e2, Sem.run_bind, e0, hp]; rfl)
      · exact h.elim
    · cases hn
  · rw [if_neg hn] at h ⊢
    by_cases hs : vU y = true
    · rw [if_pos hs] at h ⊢
      unfold vU at hs
      split at hs
      · simp only [za, zi] at hy
        subst hy
        unfold zfQ at h ⊢
        split at h
        · rename_i et _ _ _ hT
          have hu : P.underlying t = some (.slice et) := by obtain ⟨_, _, hu, _⟩ := qK hT; exact hu
          cases hm : Xw x with
          | none => rw [hm] at h; exact h.elim
          | some b =>
            rw [hm] at h
            obtain ⟨p, l, c, rfl, hp⟩ := zby hm hx
            have e00 : ∀ d, (Op.equalIn (d + 1) t (.slice p l c) (.slice none 0 0)).run P w = .ok p.isNone w := fun d => by
              cases p <;> simp [Op.equalIn, run_underlying hu]
            have e0 : (Op.equal t (.slice p l c) (.slice none 0 0)).run P w = .ok p.isNone w := e00 9999
            have e1 : binOp .eql t (.slice p l c) (.slice none 0 0) = (do let c ← Op.equal t (.slice p l c) (.slice none 0 0); pure (.bool c)) := by cases p <;> rfl
            have e2 : binOp .neq t (.slice p l c) (.slice none 0 0) = (do let c ← Op.equal t (.slice p l c) (.slice none 0 0); pure (.bool (!c))) := by cases p <;> rfl
            cases op <;> simp only [] at h ⊢ <;> first
              | exact h.elim
              | (refine ⟨.bool b, ?_, by simp only [za, zi]⟩
                 rw [Sem.run_bind, QK (by simp) (by simp), Result.andThen_ok, e1, Sem.run_bind, e0, hp]; rfl)
              | (refine ⟨.bool (!b), ?_, by simp only [za, zi]⟩
                 rw [Sem.run_bind, QK (by simp) (by simp), Result.andThen_ok, e2, Sem.run_bind, e0, hp]; rfl)
        · exact h.elim
      · cases hs
    · rw [if_neg hs] at h ⊢
      exact za4 xo yo h hx hy
def zbT:AV→Option Bool
 |.p (.opq .nilIface)=>some true
 |.p (.opq (.iface _ _))=>some false
 |_=>none
def zal(P:Program)(op:BinOp)(t:TypeId)(x:AV):PR:=
 match ty P t with
 |some ⟨.interface _,_,_,_⟩=>
  match zbT x,op with
  |some b,.eql=>(True,.p (.bool b))
  |some b,.neq=>(True,.p (.bool (!b)))
  |_,_=>bad
 |_=>bad
def Yc:Operand→Bool
 |.const .nilIface=>true
 |_=>false
def zcD(P:Program)(op:BinOp)(t:TypeId)(yo:Operand)(x y:AV):PR:=if Yc yo then zal P op t x else zd7 P op t x y
theorem Xe {P : Program} {op : BinOp} {t : TypeId} {x : AV} {g : Gh} {w : World} {u : Value} (xo : Operand) (h : (zal P op t x).1) (hx : za g w x u) :
    ∃ r, (do eqGuard op t xo (.const .nilIface) u .nilIface; binOp op t u .nilIface : Sem Value).run P w = .ok r w ∧ za g w (zal P op t x).2 r := by
  unfold zal at h ⊢
  split at h
  · rename_i ms _ _ _ hT
    have hu : P.underlying t = some (.interface ms) := by obtain ⟨_, _, hu, _⟩ := qK hT; exact hu
    cases hm : zbT x with
    | none => rw [hm] at h; exact h.elim
    | some b =>
      rw [hm] at h
      have hq : (eqGuard op t xo (.const .nilIface) u .nilIface).run P w = .ok () w ∧ (∀ d, (Op.equalIn (d + 1) t u .nilIface).run P w = .ok b w) ∧ ((binOp .eql t u .nilIface) = (do let c ← Op.equal t u .nilIface; pure (.bool c))) ∧ ((binOp .neq t u .nilIface) = (do let c ← Op.equal t u .nilIface; pure (.bool (!c)))) := by
        unfold zbT at hm
        split at hm
        · injection hm with hm; subst hm
          simp only [za, zi] at hx
          subst hx
          refine ⟨by cases op <;> cases xo <;> rfl, fun d => by simp [Op.equalIn, run_underlying hu], rfl, rfl⟩
        · injection hm with hm; subst hm
          simp only [za, zi] at hx
          subst hx
          refine ⟨by cases op <;> rfl, fun d => by simp [Op.equalIn, run_underlying hu], rfl, rfl⟩
        · cases hm
      obtain ⟨h1, h2, h3, h4⟩ := hq
      have h2' : (Op.equal t u .nilIface).run P w = .ok b w := h2 9999
      cases op <;> simp only [] at h ⊢ <;> first
        | exact h.elim
        | (refine ⟨.bool b, ?_, by simp only [za, zi]⟩
           rw [Sem.run_bind, h1, Result.andThen_ok, h3, Sem.run_bind, h2']; rfl)
        | (refine ⟨.bool (!b), ?_, by simp only [za, zi]⟩
           rw [Sem.run_bind, h1, Result.andThen_ok, h4, Sem.run_bind, h2']; rfl)
  · exact h.elim
theorem V9 {P:Program} {op:BinOp} {t:TypeId} {x y:AV} {g:Gh} {w:World} {u v:Value} {yo:Operand}(xo:Operand)(hv:∀c,yo=.const c→v=c)(h:(zcD P op t yo x y).1)
  (hx:za g w x u) (hy:za g w y v):
  ∃r,(do eqGuard op t xo yo u v;binOp op t u v:Sem Value).run P w=.ok r w∧za g w (zcD P op t yo x y).2 r:=by
 unfold zcD at h⊢
 by_cases hn:Yc yo=true
 ·rw[if_pos hn]at h⊢
  unfold Yc at hn
  split at hn
  ·have:=hv _ rfl
   subst this
   exact Xe xo h hx
  ·cases hn
 ·rw[if_neg hn]at h⊢
  exact zaI xo yo h hx hy
def ue(S:St):Option Operand→Prop×Option (Option Int)
 |none=>(True,some none)
 |some x=>match(unG (S.ev x)).2 with
  |.p (.int _ n)=>((unG (S.ev x)).1,some (some n))
  |_=>(False,none)
theorem vu [Gi] {E:Ent} {S:St} {g:Gh} {a:Act} {w:World}(hS:SR E S g a w) {x:Option Operand} {b:Option Int}(h:(ue S x).1)(e:(ue S x).2=some b):yc b (x.map a.eval):=by
 cases x with
 |none=>simp only[ue,Option.some.injEq]at e;subst e;trivial
 |some x=>
  unfold ue at h e
  simp only[]at h e
  split at h
  ·rename_i k n h1
   simp only[h1,Option.some.injEq]at e
   subst e
   have:=zp h (hS.ev x)
   rw[h1]at this
   simp only[za,zi]at this
   exact⟨k,this⟩
  ·exact h.elim
def zed:AV→Option (Tok×Nat)
 |.lp t o=>some (t,o)
 |_=>none
def zba:TypeDesc→Option (Nat×TypeId)
 |.array n e=>some (n,e)
 |_=>none
def UN(P:Program)(S:St)(T:TypeId)(x:AV)(lo hi mx:Option Int):Option PR:=
 match zed x,(ty P T).bind fun T=>zba T.desc with
 |some (t,o),some (n,e)=>
  match ty P e,zw S.rs t with
  |some et,some cs=>some ((0≤lo.getD 0∧lo.getD 0≤hi.getD n∧hi.getD n≤mx.getD n∧mx.getD n≤n∧(mx.isSome=true→hi.isSome=true)∧o+n*et.size≤cs.length),.la t et.size (o+(lo.getD 0).toNat*et.size) ((hi.getD n).toNat- (lo.getD 0).toNat))
  |_,_=>some bad
 |_,_=>none
def sliceB(P:Program)(S:St)(T:TypeId)(x:AV)(lo hi mx:Option Int):PR:=
 match UN P S T x lo hi mx with
 |some r=>r
 |none=>yF P T x lo hi mx
theorem J7 [Gi] {P:Program} {E:Ent} {S:St} {g:Gh} {a:Act} {w:World}(hS:SR E S g a w) {T:TypeId} {x:AV} {lo hi mx:Option Int} {vl vh vm:Option Value} {v:Value}(h:(sliceB P S T x lo hi mx).1)(r:za g w x v)
  (hl:yc lo vl) (hh:yc hi vh) (hm:yc mx vm):
  ∃u,(Instr.sliceAt T v vl vh vm).run P w=.ok u w∧za g w (sliceB P S T x lo hi mx).2 u:=by
 unfold sliceB at h⊢
 cases hR:UN P S T x lo hi mx with
 |none=>rw[hR]at h;exact JE h r hl hh hm
 |some q=>
  rw[hR]at h
  simp only at h⊢
  unfold UN at hR
  split at hR
  ·rename_i t o n e hx hT
   split at hR
   ·rename_i et cs het hcs
    injection hR with hR;subst hR
    obtain⟨h0,h1,h2,h3,h4,h5⟩:=h
    simp only at h0 h1 h2 h3 h4 h5⊢
    simp only[Option.bind_eq_some_iff]at hT
    obtain⟨⟨d,sz,by_,ze⟩,hT,hd⟩:=hT
    unfold zba at hd
    split at hd
    ·rename_i n' e' hd'
     injection hd with hd;injection hd with hd1 hd2;subst hd1;subst hd2
     simp only at hd'
     subst hd'
     unfold zed at hx
     split at hx
     ·rename_i tk off
      injection hx with hx;injection hx with hx1 hx2;subst hx1;subst hx2
      simp only[za]at r⊢
      obtain⟨b,hk,rfl⟩:=r
      have hu:=zo w hT
      simp only[]at hu
      have hs:=qc w het
      have hb:=ZL (P:=P) (w:=w) false n' n' lo hi mx vl vh vm hl hh hm h4 h0 h1 (by omega) (by omega)
      obtain⟨cs',hl',_,arr,T0,hbl,hle,_⟩:=hS.roots b _ hk
      rw[hcs]at hl';injection hl' with hl';subst hl'
      generalize hL:(lo.getD 0).toNat=L at hb⊢
      generalize hH:(hi.getD n').toNat=H at hb⊢
      generalize hM:(mx.getD n').toNat=M at hb⊢
      refine⟨.slice (some ⟨b,(if M=L then off else off+L*et.size),none⟩) (H-L) (M-L),?_,b,(if M=L then off else off+L*et.size),M-L,hk,rfl,by omega,?_,?_⟩
      ·unfold Instr.sliceAt
       rw[Sem.run_bind,hu]
       simp only[Result.andThen_ok,Instr.sureAddr,Sem.run_bind,Sem.run_pure,hb,hs]
       congr 2
       by_cases e:M=L<;>simp[e,addr_add]
      ·by_cases e:M=L
       ·left;omega
       ·right;rw[if_neg e]
      ·have hM':M≤n':=by omega
       have hmul:M*et.size≤n'*et.size:=Nat.mul_le_mul_right _ hM'
       by_cases e:M=L
       ·rw[if_pos e,e,Nat.sub_self,Nat.zero_mul]
        exact⟨arr,T0,hbl,by omega⟩
       ·rw[if_neg e]
        refine⟨arr,T0,hbl,?_⟩
        rw[Nat.add_assoc,←Nat.add_mul]
        have:L+(M-L)=M:=by omega
        rw[this]
        omega
     ·cases hx
    ·cases hd
   ·injection hR with hR;subst hR;exact h.elim
  ·cases hR
def Yf(P:Program)(S:St)(T:TypeId)(x:Operand)(lo hi mx:Option Operand):PR:=
 match(ue S lo).2,(ue S hi).2,(ue S mx).2 with
 |some l,some h,some m=>
  (((unG (S.ev x)).1∧(ue S lo).1∧(ue S hi).1∧(ue S mx).1)∧(sliceB P S T (unG (S.ev x)).2 l h m).1,(sliceB P S T (unG (S.ev x)).2 l h m).2)
 |_,_,_=>bad
def Zv:AV→Bool
 |.p (.opq (.slice none 0 0))=>true
 |_=>false
def zkN:AV→Bool
 |.os _ _ _=>true
 |_=>false
def Xu(P:Program)(s d:TypeId):Bool:=
 match ty P s,ty P d with
 |some a,some b=>(!(xH a.desc) || xL b.desc)&& !(xH b.desc)
 |_,_=>false
def un1(S:St)(x:Operand)(f:AV→PR):PR:=((unG (S.ev x)).1∧(f (unG (S.ev x)).2).1,(f (unG (S.ev x)).2).2)
def un2(S:St)(x y:Operand)(f:AV→AV→PR):PR:=
 (((unG (S.ev x)).1∧(unG (S.ev y)).1)∧(f (unG (S.ev x)).2 (unG (S.ev y)).2).1,(f (unG (S.ev x)).2 (unG (S.ev y)).2).2)
def yZ(S:St):List Operand→Prop×List AV
 | []=>(True,[])
 |x::l=>((unG (S.ev x)).1∧(yZ S l).1,(unG (S.ev x)).2::(yZ S l).2)
theorem UQ [Gi] {E:Ent} {S:St} {g:Gh} {a:Act} {w:World}(hS:SR E S g a w):∀{l:List Operand},(yZ S l).1→zm g w (yZ S l).2 (l.map a.eval)
 | [],_=>by simp[yZ,zm]
 |x::l,h=>by
  simp only[yZ,List.map_cons,zm]at h⊢
  exact⟨_,_,rfl,zp h.1 (hS.ev x),UQ hS h.2⟩
def W5(P:Program)(S:St)(s d:TypeId)(x:AV):PR:=
 match x with
 |.la t z o n=>match zw S.rs t,ty P s,ty P d with
  |some cs,some A,some B=>match xD ((cs.drop o).take n)with
   |some ys=>((z=1∧ys.length=n∧(v7 P A.desc B.desc ys).1),(v7 P A.desc B.desc ys).2)
   |none=>bad
  |_,_,_=>bad
 |x=>YH P s d x
theorem KO {fr:Nat→Nat} {w:World} {b:Nat}:∀{es:List PV} {t:List UInt8} {o:Nat},Qm es=some t→(∀(j:Nat) (e:PV),es[j]?=some e→∃c,w.cell? ⟨b,o+j,none⟩=some c∧zi fr w e c)→
  ∃ns:List Int,ns.length=es.length∧(∀s:ByteArray,(ns.foldl (fun r n=>r.push (UInt8.ofNat n.toNat)) s).data.toList=s.data.toList++t)∧∀(j:Nat) (v:Value),(ns.map (Value.int .u8))[j]?=some v→w.cell? ⟨b,o+j,none⟩=some v
 | [],t,o,h,_=>by
  simp only[Qm,Option.some.injEq]at h;subst h
  exact⟨[],rfl,fun s=>by simp,fun j v hj=>by simp at hj⟩
 |e::es,t,o,h,r=>by
  cases e with
  |int k n=>
   cases k with
   |u8=>
    simp only[Qm,Option.map_eq_some_iff]at h
    obtain⟨t',h,rfl⟩:=h
    obtain⟨c,hc,r0⟩:=r 0 _ rfl
    simp only[zi]at r0
    subst r0
    obtain⟨ns,k1,k2,k3⟩:=KO (o:=o+1) h (fun j e hj=>by
     have:=r (j+1) e (by simpa using hj)
     rwa[show o+(j+1)=o+1+j from by omega]at this)
    refine⟨n::ns,by simp[k1],fun s=>?_,fun j v hj=>?_⟩
    ·rw[List.foldl_cons,k2];simp
    ·cases j with
     |zero=>
      simp at hj;subst hj
      exact hc
     |succ j=>
      have:=k3 j v (by simpa using hj)
      rwa[show o+1+j=o+(j+1)from by omega]at this
   |_=>simp[Qm]at h
  |_=>simp[Qm]at h
theorem Xm [Gi] {P:Program} {E:Ent} {S:St} {g:Gh} {a:Act} {w:World}(hS:SR E S g a w) {s d:TypeId} {x:AV} {v:Value}(h:(W5 P S s d x).1)(r:za g w x v):
  ∃u,(convert s d v).run P w=.ok u w∧za g w (W5 P S s d x).2 u:=by
 unfold W5 at h⊢
 split at h
 ·rename_i t z o n
  split at h
  ·rename_i cs A B hl hA hB
   split at h
   ·rename_i ys hy
    obtain⟨rfl,hn,hc⟩:=h
    simp only
    simp only[za]at r
    obtain⟨b,o',cap,hk,rfl,_,ho,_⟩:=r
    obtain⟨cs',hl',_,arr,T,hb,_,hcs⟩:=hS.roots b t hk
    obtain rfl:cs=cs':=Option.some.inj (hl.symm.trans hl')
    have he:=x9 hy
    unfold v7 at hc⊢
    split at hc
    ·rename_i e tx hs ht
     split at hc
     ·rename_i E' hE
      obtain⟨h1,h2,h3⟩:=hc
      have hpos:n≠0:=fun e0=>h2 (List.eq_nil_of_length_eq_zero (by omega))
      obtain rfl:o'=o:=ho.resolve_left hpos
      obtain⟨ns,k1,k2,k3⟩:=KO (fr:=g.fr) (w:=w) (b:=b) (o:=o') ht (fun j y hj=>by
       have hjn:j<n:=by have:=(List.getElem?_eq_some_iff.1 hj).1;omega
       have h4:=congrArg (·[j]?) he
       simp only[List.getElem?_take,hjn,if_true,List.getElem?_drop,List.getElem?_map,hj,Option.map_some]at h4
       obtain⟨u,hu,_,hr⟩:=hcs (o'+j) _ h4
       exact⟨u,by rw[World.cell?_of_block (show w.heap[b]?=w.heap[b]? from rfl)];simp only[World.cell?,hb];exact hu,by simpa only[za]using hr⟩)
      have hs':P.underlying s=some A.desc:=(qK hA).choose_spec.2.1
      have hd':P.underlying d=some B.desc:=(qK hB).choose_spec.2.1
      have he':P.underlying e=some E'.desc:=(qK hE).choose_spec.2.1
      rw[hs]at hs';rw[h3]at hd';rw[h1]at he'
      have hload:(loadCells ⟨b,o',none⟩ n).run P w=.ok (ns.map (Value.int .u8)).toArray w:=by
       have:=run_loadCells_list (P:=P) w ⟨b,o',none⟩ (ns.map (Value.int .u8)) (fun j v hj=>by rw[addr_add];exact k3 j v hj)
       simpa[k1,hn]using this
      refine⟨_,(run_convert_bytes_string w s d e _ _ _ hs' he' hd').trans (run_bytesToString w _ _ _ ns hload),?_⟩
      simp only[za,zi]
      congr 1
      have:=k2 ByteArray.empty
      apply ByteArray.ext
      apply Array.toList_inj.1
      simpa using this
     ·exact hc.elim
    ·exact hc.elim
   ·exact h.elim
  ·exact h.elim
 ·rename_i x _
  exact Y9 h r
def qE(P:Program)(S:St)(o:Oper):Option PR:=
 match o.op with
 |.move x=>some (unG (S.ev x))
 |.assign x=>if zkN (S.ev x) || Zv (S.ev x)then none else some (unG (S.ev x))
 |.pick c x y=>some (un1 S c fun c=>XG c (S.ev x) (S.ev y))
 |.nilCheck x=>some (un1 S x uO)
 |.binOp op t x y _=>some (un2 S x y (zcD P op t y))
 |.unOp op _ x=>some (un1 S x (unA op))
 |.convert s d x=>if Xu P s d then some (un1 S x (W5 P S s d))else none
 |.slice T x lo hi mx=>some (Yf P S T x lo hi mx)
 |.fieldAddr T x f=>some (un1 S x fun x=>Qu P T x f)
 |.field T x f=>some (un1 S x fun x=>UW P T x f)
 |.indexAddr T x i=>some (un2 S x i (Qq P T))
 |.index T x i=>some (un2 S x i (Uy P T))
 |.extract x i=>some (un1 S x fun x=>xu x i)
 |.lookup T x k ok=>some (un2 S x k fun x k=>qU P T x k ok)
 |.load t x=>some (un1 S x (jx P S t))
 |.build T parts=>some (Ws P S T parts.toList)
 |.makeFunc (.func f) first caps=>if first.size=0 then some ((yZ S caps.toList).1,.fn f (yZ S caps.toList).2)else none
 |.call c=>
  match c.callee,c.args.toList,c.argTypes.toList with
  |.builtin .len,[x],[T]=>some (un1 S x (zf1 P T))
  |.builtin .min,[x,y],_=>some (un2 S x y (xZ false))
  |.builtin .max,[x,y],_=>some (un2 S x y (xZ true))
  |_,_,_=>none
 |_=>none
theorem zM {P:Program} {w w':World} {s:Sem Value} {u:Value}(h:s.run P w=.ok u w'):(do pure (Next.value (←s)):Sem Next).run P w=.ok (.value u) w':=by
 rw[Sem.run_bind,h];rfl
theorem qC [Gi] {P:Program} {E:Ent} {S:St} {g:Gh} {a:Act} {w:World}(hS:SR E S g a w) {o:Oper} {r:PR}(e:qE P S o=some r)(h:r.1):
  ∃v,(execOp a.eval o).run P w=.ok (.value v) w∧za g w r.2 v:=by
 have k1:∀(x:Operand) (f:AV→PR) (sem:Value→Sem Value),(∀y v,(f y).1→za g w y v→∃u,(sem v).run P w=.ok u w∧za g w (f y).2 u)→(un1 S x f).1→
   ∃v,(do pure (Next.value (←sem (a.eval x))):Sem Next).run P w=.ok (.value v) w∧za g w (un1 S x f).2 v:=by
  intro x f sem hf hh
  obtain⟨u,h1,h2⟩:=hf _ _ hh.2 (zp hh.1 (hS.ev x))
  exact⟨u,zM h1,h2⟩
 have k2:∀(x y:Operand) (f:AV→AV→PR) (sem:Value→Value→Sem Value),(∀p q v u,(f p q).1→za g w p v→za g w q u→∃r,(sem v u).run P w=.ok r w∧za g w (f p q).2 r)→(un2 S x y f).1→
   ∃v,(do pure (Next.value (←sem (a.eval x) (a.eval y))):Sem Next).run P w=.ok (.value v) w∧za g w (un2 S x y f).2 v:=by
  intro x y f sem hf hh
  obtain⟨u,h1,h2⟩:=hf _ _ _ _ hh.2 (zp hh.1.1 (hS.ev x)) (zp hh.1.2 (hS.ev y))
  exact⟨u,zM h1,h2⟩
 obtain⟨dst,op,tt,pos,after,guard⟩:=o
 unfold qE at e
 cases op with
 |move x=>
  simp only[Option.some.injEq]at e;subst e
  exact⟨_,rfl,zp h (hS.ev x)⟩
 |assign x=>
  simp only[]at e
  split at e
  ·cases e
  ·simp only[Option.some.injEq]at e;subst e
   exact⟨_,rfl,zp h (hS.ev x)⟩
 |pick c x y=>
  simp only[Option.some.injEq]at e;subst e
  obtain⟨v,h1,h2⟩:=zak (P:=P) h.2 (zp h.1 (hS.ev c)) (hS.ev x) (hS.ev y)
  exact⟨v,h1,h2⟩
 |nilCheck x=>
  simp only[Option.some.injEq]at e;subst e
  have hr:=zp h.1 (hS.ev x)
  have hh:=h.2
  unfold un1
  have go:∀v,a.eval x=v→((∃b o,v=.pointer (some ⟨b,o,none⟩))∨∃f p q,v=.func (.func f) p q)→
    (execOp a.eval {dst:=dst,op:=Op.nilCheck x,type:=tt,pos:=pos,after:=after,guard:=guard}).run P w=.ok (.value v) w:=by
   intro v hv hc
   simp only[execOp,hv]
   rcases hc with ⟨b,o,rfl⟩|⟨f,p,q,rfl⟩<;>rfl
  revert hr hh
  generalize (unG (S.ev x)).2=y
  intro hr hh
  unfold uO at hh⊢
  split at hh
  ·have hr':=hr
   simp only[za]at hr'
   obtain⟨b,_,hv⟩:=hr'
   exact⟨_,go _ rfl (.inl ⟨b,_,hv⟩),hr⟩
  ·have hr':=hr
   simp only[za]at hr'
   obtain⟨b,base,hv,_⟩:=hr'
   exact⟨_,go _ rfl (.inl ⟨b,_,hv⟩),hr⟩
  ·have hr':=hr
   simp only[za,zi]at hr'
   obtain⟨b,base,hv,hf,u,h1,h2,h3⟩:=hr'
   exact⟨_,go _ rfl (.inl ⟨b,_,hv⟩),by simp only[za,qo,and_true];exact⟨b,base,hv,hf,u,h1,h2,h3⟩⟩
  ·have hr':=hr
   simp only[za,zi]at hr'
   exact⟨_,go _ rfl (.inr ⟨_,_,_,hr'⟩),hr⟩
  ·exact hh.elim
 |binOp op t x y yt=>
  simp only[Option.some.injEq]at e;subst e
  obtain⟨u,h1,h2⟩:=V9 (v:=a.eval y) x (fun c e=>by rw[e];rfl) h.2 (zp h.1.1 (hS.ev x)) (zp h.1.2 (hS.ev y))
  exact⟨u,zM h1,h2⟩
 |unOp op t x=>
  simp only[Option.some.injEq]at e;subst e
  exact k1 x _ (fun v=>Op.unary op v) (fun y v=>zde) h
 |convert s d x=>
  simp only[]at e
  split at e
  ·simp only[Option.some.injEq]at e;subst e
   exact k1 x _ (fun v=>convert s d v) (fun y v=>Xm hS) h
  ·cases e
 |slice T x lo hi mx=>
  simp only[Option.some.injEq]at e;subst e
  unfold Yf at h⊢
  split at h
  ·rename_i l hh m h1 h2 h3
   obtain⟨⟨c0,c1,c2,c3⟩,c4⟩:=h
   simp only
   obtain⟨u,hu,hr⟩:=J7 (P:=P) hS c4 (zp c0 (hS.ev x)) (vu hS c1 h1) (vu hS c2 h2) (vu hS c3 h3)
   exact⟨u,zM hu,hr⟩
  ·exact h.elim
 |fieldAddr T x f=>
  simp only[Option.some.injEq]at e;subst e
  exact k1 x _ (fun v=>Instr.fieldAt T v f) (fun y v=>uS) h
 |field T x f=>
  simp only[Option.some.injEq]at e;subst e
  exact k1 x _ (fun v=>Instr.field T v f) (fun y v=>JV) h
 |indexAddr T x i=>
  simp only[Option.some.injEq]at e;subst e
  exact k2 x i _ (fun u v=>Instr.indexAt T u v) (fun p q v u=>uM) h
 |index T x i=>
  simp only[Option.some.injEq]at e;subst e
  exact k2 x i _ (fun u v=>Instr.index T u v) (fun p q v u=>JF) h
 |extract x i=>
  simp only[Option.some.injEq]at e;subst e
  exact k1 x _ (fun v=>Instr.extract v i) (fun y v=>UI) h
 |lookup T x k ok=>
  simp only[Option.some.injEq]at e;subst e
  exact k2 x k _ (fun u v=>Instr.lookup T u v ok) (fun p q v u=>U9) h
 |load t x=>
  simp only[Option.some.injEq]at e;subst e
  exact k1 x _ (fun v=>Instr.loadAt t v) (fun y v=>kl hS) h
 |build T parts=>
  simp only[Option.some.injEq]at e;subst e
  obtain⟨u,hu,hr⟩:=Yu (P:=P) hS h
  exact⟨u,zM hu,hr⟩
 |makeFunc fn first caps=>
  cases fn with
  |func f=>
   simp only[]at e
   split at e
   ·rename_i h0
    simp only[Option.some.injEq]at e;subst e
    have hf:first= #[]:=Array.eq_empty_of_size_eq_zero (by assumption)
    subst hf
    refine⟨.func (.func f) #[] (caps.map a.eval),by simp[execOp,Instr.makeFunc],?_⟩
    simp only[za]
    refine⟨_,rfl,?_⟩
    have:=UQ hS h
    simpa using this
   ·cases e
  |_=>cases e
 |call c=>
  obtain⟨callee,args,argTypes⟩:=c
  simp only[]at e
  split at e
  ·rename_i x T h1 h2
   simp only[Option.some.injEq]at e;subst e
   have ha:args= #[x]:=by rw[←Array.toArray_toList (xs:=args),h1]
   have ht:argTypes= #[T]:=by rw[←Array.toArray_toList (xs:=argTypes),h2]
   subst ha;subst ht
   obtain⟨u,hu,hr⟩:=zaC (P:=P) (T:=T) (tt:=tt) (ts:= #[T]) (args:= #[x].map a.eval) rfl (by simp) h.2 (zp h.1 (hS.ev x))
   exact⟨u,zM hu,hr⟩
  ·rename_i x y h1
   simp only[Option.some.injEq]at e;subst e
   have ha:args= #[x,y]:=by rw[←Array.toArray_toList (xs:=args),h1]
   subst ha
   obtain⟨u,hu,hr⟩:=wz (P:=P) (ts:=argTypes) (tt:=tt) h.2 (zp h.1.1 (hS.ev x)) (zp h.1.2 (hS.ev y))
   refine⟨u,zM ?_,hr⟩
   have hm:Array.map a.eval #[x,y]= #[a.eval x,a.eval y]:=by simp
   simp only[hm]
   simpa using hu
  ·rename_i x y h1
   simp only[Option.some.injEq]at e;subst e
   have ha:args= #[x,y]:=by rw[←Array.toArray_toList (xs:=args),h1]
   subst ha
   obtain⟨u,hu,hr⟩:=wz (P:=P) (ts:=argTypes) (tt:=tt) h.2 (zp h.1.1 (hS.ev x)) (zp h.1.2 (hS.ev y))
   refine⟨u,zM ?_,hr⟩
   have hm:Array.map a.eval #[x,y]= #[a.eval x,a.eval y]:=by simp
   simp only[hm]
   simpa using hu
  ·cases e
 |_=>cases e
end
end Go.AM
