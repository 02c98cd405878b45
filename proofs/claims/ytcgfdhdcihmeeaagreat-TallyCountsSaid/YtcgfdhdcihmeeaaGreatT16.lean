/- A part of the proof of this seat's statements, by an abstract machine: what each operation does to values, and what the law's functions compute. Conditions: as each law says. -/
import Derived.Test.YtcgfdhdcihmeeaaGreatT15
import Derived.KernelRfl
import Derived.ProofKit
import Derived.Deep.Slices
section
namespace Go.AM
def zld [Gi](P:Program)(ops:Array Oper)(rest:List Oper)(K:St→Prop):St→Prop:=fun S=>Ze P ops rest S K
def zab [Gi](P:Program)(D:List Nat)(y:Code)(Q:Exit→St→Prop):Exit→St→Prop:=fun e S=>match e with|.normal=>wpA P D y Q S|e=>Q e S
def zgA(id:Nat)(Q:Exit→St→Prop):Exit→St→Prop:=fun e S=>match e with|.exit i=>if i=id then Q .normal S else Q (.exit i) S|e=>Q e S
def yP [Gi](P:Program)(S:St)(o:Oper)(K:St→Prop):Option (Option Bool)→Prop
 |some c=>jZ P S o c K
 |none=>False
def Ux [Gi](P:Program)(S:St)(o:Oper)(K:St→Prop)(c:Option Bool):Option PR→Prop
 |some r=>match c with
  |none=>(r.1∧dOK S o.dst)∧K (S.qu o.dst r.2)
  |some c=>((c=true→r.1)∧dOK S o.dst)∧K (S.qu o.dst (.gd c r.2))
 |none=>match c with
  |none=>UK P S o K
  |some c=>(c=true→UK P S o K)∧(c=false→dOK S o.dst∧K (S.qu o.dst (.gd false .z8)))
def Yo [Gi](P:Program)(S:St)(o:Oper)(K:St→Prop):Option (Prop×St)→Prop
 |some r=>r.1∧K r.2
 |none=>Ur P S o K
def yB [Gi](P:Program)(D:List Nat)(x y:Code)(Q:Exit→St→Prop)(S:St):AV→Prop
 |.p (.bool b)=>(b=true→wpA P D x Q S)∧(b=false→wpA P D y Q S)
 |_=>False
section
variable {P:Program} {D:List Nat} {ops:Array Oper} {S:St} {K:St→Prop} {Q:Exit→St→Prop}
@[go_sem] theorem znZ [Gi] : Ze P ops [] S K = K S := _root_.id rfl
@[go_sem] theorem zm1 [Gi] {o : Oper} {rest : List Oper} : Ze P ops (o :: rest) S K = yP P S o (zld P ops rest K) (z5 ops S o) := by
 simp only[Ze];unfold yP;split<;>simp_all;rfl
@[go_sem] theorem zni [Gi] {rest : List Oper} : zld P ops rest K S = Ze P ops rest S K := _root_.id rfl
@[go_sem] theorem zkS [Gi] {o : Oper} {c : Option Bool} : yP P S o K (some c) = Ux P S o K c (qK P S o) := by
 unfold yP jZ Ux;rfl
@[go_sem] theorem zln [Gi] {o : Oper} {c : Prop} {x : AV} : Ux P S o K none (some (c, x)) = ((c ∧ dOK S o.dst) ∧ K (S.qu o.dst x)) := rfl
@[go_sem] theorem znk [Gi] {o : Oper} {b : Bool} {c : Prop} {x : AV} : Ux P S o K (some b) (some (c, x)) = (((b = true → c) ∧ dOK S o.dst) ∧ K (S.qu o.dst (.gd b x))) := rfl
@[go_sem] theorem zmK [Gi] {o : Oper} : Ux P S o K none none = Yo P S o K (zcT P S o) := by
 unfold Ux UK Yo;rfl
@[go_sem] theorem zk0 [Gi] {o : Oper} {b : Bool} : Ux P S o K (some b) none = ((b = true → Yo P S o K (zcT P S o)) ∧ (b = false → dOK S o.dst ∧ K (S.qu o.dst (.gd false .z8)))) := by
 unfold Ux UK Yo;rfl
@[go_sem] theorem zmF [Gi] {o : Oper} {c : Prop} {S' : St} : Yo P S o K (some (c, S')) = (c ∧ K S') := rfl
@[go_sem] theorem zlZ [Gi] {o : Oper} : Yo P S o K none = Ur P S o K := rfl
@[go_sem] theorem znd [Gi] : wpA P D .skip Q S = Q .normal S := _root_.id rfl
@[go_sem] theorem zlX [Gi] {id : Nat} {l : List Oper} : wpA P D (.region id l.toArray false) Q S = Ze P l.toArray l { S with ts := [] } (Q .normal) := _root_.id rfl
def zaJ [Gi](P:Program)(l:List Oper)(K:St→Prop)(S:St):Bool→Prop
 |true=>wD P l.toArray l (W0 P l S) K
 |false=>Ze P l.toArray l S K
def zbx [Gi](P:Program)(l:List Oper)(K:St→Prop)(S:St):Bool→Bool→Prop
 |true,_=>WI P l.toArray S K
 |false,c=>zaJ P l K S c
def zeM [Gi](P:Program)(l:List Oper)(K:St→Prop)(S:St):Bool→Bool→Bool→Prop
 |true,_,_=>zex P l.toArray K S
 |false,b,c=>zbx P l K S b c
@[go_sem] theorem zk8 [Gi] {id : Nat} {l : List Oper} : wpA P D (.region id l.toArray true) Q S = zeM P l (Q .normal) { S with ts := [] } (D.contains (id + 200000)) (D.contains (id + 100000)) (D.contains id) := by
 unfold zeM zbx zaJ
 simp only[wpA,Bool.true_and]
 cases D.contains (id+200000)<;>cases D.contains (id+100000)<;>cases D.contains id<;>rfl
@[go_sem] theorem zkT [Gi] {l : List Oper} {K : St → Prop} {b c : Bool} : zeM P l K S false b c = zbx P l K S b c := _root_.id rfl
theorem Qr [Gi] {l:List Oper} {K:St→Prop} {b c:Bool}(t:OT)(h1:(Region.noSelect l.toArray&&okT l.toArray l.toArray.size (Array.replicate l.toArray.size false) t)=true)(h2:j6 P l.toArray K t S):zeM P l K S true b c:=⟨t,K,h1,h2,fun _ h=>.inl h⟩
def stepT [Gi](P:Program)(ops:Array Oper)(S:St)(K:St→Prop):Option Oper→Prop
 |some o=>Kg (qK P S o) (Jr o)∧yP P S o K (z5 ops S o)
 |none=>False
def zi9 [Gi](P:Program)(ops:Array Oper)(K:St→Prop)(t:OT):St→Prop:=fun S=>j6 P ops K t S
@[go_sem] theorem zmZ [Gi] {ops : Array Oper} {K : St → Prop} {t : OT} : zi9 P ops K t S = j6 P ops K t S := _root_.id rfl
@[go_sem] theorem znh [Gi] {ops : Array Oper} {K : St → Prop} {i c : Nat} {t : OT} : j6 P ops K (.now i c t) S = zcu P S c (zi9 P ops K t) ops[i]? := by simp only [j6]; rfl
@[go_sem] theorem zmJ {K : St → Prop} {c : Nat} {o : Oper} : zcu P S c K (some o) = zgR P S o c K (qK P S o) := rfl
@[go_sem] theorem zna {K : St → Prop} {c : Nat} {o : Oper} {p : Prop} {x : AV} : zgR P S o c K (some (p, x)) = ((p ∧ dOK S o.dst) ∧ zeg c (xH S o x) (xC o || UQ x) ∧ K (S.qu o.dst x)) := rfl
@[go_sem] theorem zoy {a b : Bool} : zeg 0 a b = True := rfl
@[go_sem] theorem zos {a b : Bool} : zeg 1 a b = ((a || b) = true) := rfl
@[go_sem] theorem zoA {a b : Bool} : zeg 2 a b = (a = true) := rfl
@[go_sem] theorem zn7 [Gi] {ops : Array Oper} {K : St → Prop} : j6 P ops K (.mk []) S = K S := by simp only [j6]
@[go_sem] theorem zmU [Gi] {ops : Array Oper} {K : St → Prop} {x : Nat × OT} {l : List (Nat × OT)} : j6 P ops K (.mk (x :: l)) S = yc P ops K (x :: l) S := by simp only [j6]
@[go_sem] theorem znb [Gi] {ops : Array Oper} {K : St → Prop} : yc P ops K [] S = True := by simp only [yc]
@[go_sem] theorem zlM [Gi] {ops : Array Oper} {K : St → Prop} {i : Nat} {t : OT} {l : List (Nat × OT)} : yc P ops K ((i, t) :: l) S = (stepT P ops S (zi9 P ops K t) ops[i]? ∧ yc P ops K l S) := by
 simp only[yc]
 cases ops[i]? with
 |none=>rfl
 |some o=>simp only[stepT,yP];cases z5 ops S o<;>rfl
@[go_sem] theorem zmC [Gi] {ops : Array Oper} {K : St → Prop} {o : Oper} : stepT P ops S K (some o) = (Kg (qK P S o) (Jr o) ∧ yP P S o K (z5 ops S o)) := rfl
@[go_sem] theorem zl4 {o : Option PR} : Kg o false = True := rfl
@[go_sem] theorem zl8 [Gi] {l : List Oper} {c : Bool} : zbx P l K S true c = WI P l.toArray S K := _root_.id rfl
@[go_sem] theorem zkV [Gi] {l : List Oper} {c : Bool} : zbx P l K S false c = zaJ P l K S c := _root_.id rfl
def zhy(P:Program)(t:Tok)(ov:Nat)(rest:List Oper)(K:St→Prop):Option (Prop×St)→Prop
 |some r=>r.1∧yg P t ov rest r.2 K
 |none=>False
def zak(P:Program)(t:Tok)(ov:Nat)(S:St)(o:Oper)(rest:List Oper)(K:St→Prop):Option PR→Prop
 |some r=>(r.1∧(Vf o || UQ r.2)=true∧dOK S o.dst)∧opsL P t ov rest (S.qu o.dst r.2) K
 |none=>False
def zeB(P:Program)(t:Tok)(ov:Nat)(S:St)(o:Oper)(rest:List Oper)(K:St→Prop):Bool→Prop
 |true=>zak P t ov S o rest K (qK P (Wn t S) o)
 |false=>yg P t ov (o::rest) S K
@[go_sem] theorem znq {t : Tok} {ov : Nat} : opsL P t ov [] S K = K S := rfl
@[go_sem] theorem zmI {t : Tok} {ov : Nat} {o : Oper} {rest : List Oper} : opsL P t ov (o :: rest) S K = zeB P t ov S o rest K (ZF o) := by
 unfold zeB zak
 simp only[opsL]
 cases ZF o
 ·rfl
 ·simp only[if_true]
  cases qK P (Wn t S) o<;>rfl
@[go_sem] theorem zmV {t : Tok} {ov : Nat} : yg P t ov [] S K = K S := rfl
@[go_sem] theorem zlm {t : Tok} {ov : Nat} {o : Oper} {rest : List Oper} : yg P t ov (o :: rest) S K = zhy P t ov rest K (zbP P t ov S o) := by
 unfold zhy
 simp only[yg]
 cases zbP P t ov S o<;>rfl
@[go_sem] theorem zlv {t : Tok} {ov : Nat} {o : Oper} {rest : List Oper} : zeB P t ov S o rest K true = zak P t ov S o rest K (qK P (Wn t S) o) := rfl
@[go_sem] theorem zk6 {t : Tok} {ov : Nat} {o : Oper} {rest : List Oper} : zeB P t ov S o rest K false = yg P t ov (o :: rest) S K := rfl
@[go_sem] theorem zkW {t : Tok} {ov : Nat} {o : Oper} {rest : List Oper} {r : PR} : zak P t ov S o rest K (some r) = ((r.1 ∧ (Vf o || UQ r.2) = true ∧ dOK S o.dst) ∧ opsL P t ov rest (S.qu o.dst r.2) K) := rfl
@[go_sem] theorem zlJ {t : Tok} {ov : Nat} {rest : List Oper} {r : Prop × St} : zhy P t ov rest K (some r) = (r.1 ∧ yg P t ov rest r.2 K) := rfl
attribute [go_sem] xH K1 Jr xC
attribute [go_sem] WX Vf UQ zcN zho Wn zbP WI
@[go_sem] theorem zl9 [Gi] {l : List Oper} : zaJ P l K S true = wD P l.toArray l (W0 P l S) K := _root_.id rfl
@[go_sem] theorem zk5 [Gi] {l : List Oper} : zaJ P l K S false = Ze P l.toArray l S K := _root_.id rfl
def ziw [Gi](P:Program)(ops:Array Oper)(rest:List Oper)(K:St→Prop):St→Prop:=fun S=>wD P ops rest S K
@[go_sem] theorem zm5 [Gi] {rest : List Oper} : ziw P ops rest K S = wD P ops rest S K := _root_.id rfl
def Kl [Gi](P:Program)(S:St)(o:Oper)(c:Option Bool)(K:St→Prop):Prop:=∃x,(uP x=true∧vE o=true∧(c≠some false→yU P S o x))∧dOK S o.dst∧K (S.qu o.dst (gv c x))
def Yi [Gi](P:Program)(S:St)(o:Oper)(K:St→Prop)(c:Option Bool):Option PR→Prop
 |some r=>(c≠some false→r.1)∧dOK S o.dst∧K (S.qu o.dst (gv c r.2))
 |none=>Kl P S o c K
def Uj [Gi](P:Program)(S:St)(o:Oper)(K:St→Prop)(c:Option Bool):Option PR→Prop
 |some r=>(c≠some false→r.1)∧dOK S o.dst∧K (S.qu o.dst (gv c r.2))
 |none=>Yi P S o K c (bsD P S o)
def zbl [Gi](P:Program)(S:St)(o:Oper)(K:St→Prop)(c:Option Bool):Option (Nat×List AV)→Prop
 |some (d,cs)=>(c=none∧S.pin.contains [d]=false∧zl S.rs [d]=some cs)∧dOK S o.dst∧K (S.qu o.dst (.lp [d] 0))
 |none=>Uj P S o K c (wU P S o)
def Zc [Gi](P:Program)(S:St)(o:Oper)(K:St→Prop):Option (Option Bool)→Prop
 |some c=>zbl P S o K c (QM P o)
 |none=>False
def zeJ [Gi](P:Program)(ops:Array Oper)(S:St)(o:Oper)(rest:List Oper)(K:St→Prop):Bool→Prop
 |true=>Zc P S o (ziw P ops rest K) (z5 ops S o)
 |false=>Ze P ops (o::rest) S K
@[go_sem] theorem znH [Gi] : wD P ops [] S K = K S := _root_.id rfl
@[go_sem] theorem zm7 [Gi] {o : Oper} {rest : List Oper} : wD P ops (o :: rest) S K = zeJ P ops S o rest K (hdr o rest) := by
 unfold wD zeJ
 cases hdr o rest
 ·simp
 ·simp only[if_true]
  unfold Zc
  cases z5 ops S o with
  |none=>rfl
  |some c=>
   simp only[]
   unfold zbl Wz
   cases hz:QM P o with
   |some dc=>
    obtain⟨d,cs⟩:=dc
    simp only[]
    refine propext ⟨?_,?_⟩
    ·rintro⟨x,⟨rfl,rfl,h1,h2⟩,h3,h4⟩;exact⟨⟨rfl,h1,h2⟩,h3,h4⟩
    ·rintro⟨⟨rfl,h1,h2⟩,h3,h4⟩;exact⟨_,⟨rfl,rfl,h1,h2⟩,h3,h4⟩
   |none=>
    simp only[]
    unfold Uj
    cases hp:wU P S o with
    |none=>
     simp only[]
     unfold Yi
     cases hb:bsD P S o with
     |none=>simp only[];unfold Kl;rfl
     |some r=>
      simp only[]
      refine propext ⟨?_,?_⟩
      ·rintro⟨x,⟨rfl,h1⟩,h2,h3⟩;exact⟨h1,h2,h3⟩
      ·rintro⟨h1,h2,h3⟩;exact⟨_,⟨rfl,h1⟩,h2,h3⟩
    |some r=>
     simp only[]
     refine propext ⟨?_,?_⟩
     ·rintro⟨x,⟨rfl,h1⟩,h2,h3⟩;exact⟨h1,h2,h3⟩
     ·rintro⟨h1,h2,h3⟩;exact⟨_,⟨rfl,h1⟩,h2,h3⟩
@[go_sem] theorem zlF [Gi] {o : Oper} {rest : List Oper} : zeJ P ops S o rest K true = Zc P S o (ziw P ops rest K) (z5 ops S o) := rfl
@[go_sem] theorem zlb [Gi] {o : Oper} {rest : List Oper} : zeJ P ops S o rest K false = Ze P ops (o :: rest) S K := rfl
@[go_sem] theorem zlp [Gi] {o : Oper} {c : Option Bool} : Zc P S o K (some c) = zbl P S o K c (QM P o) := rfl
@[go_sem] theorem zll [Gi] {o : Oper} {c : Option Bool} : zbl P S o K c none = Uj P S o K c (wU P S o) := rfl
@[go_sem] theorem zlh [Gi] {o : Oper} {c : Option Bool} {d : Nat} {cs : List AV} : zbl P S o K c (some (d, cs)) = ((c = none ∧ S.pin.contains [d] = false ∧ zl S.rs [d] = some cs) ∧ dOK S o.dst ∧ K (S.qu o.dst (.lp [d] 0))) := rfl
@[go_sem] theorem zmj [Gi] {o : Oper} {p : Prop} {x : AV} : Uj P S o K none (some (p, x)) = (p ∧ dOK S o.dst ∧ K (S.qu o.dst x)) := by simp [Uj, gv]
@[go_sem] theorem zms [Gi] {o : Oper} {b : Bool} {p : Prop} {x : AV} : Uj P S o K (some b) (some (p, x)) = ((b = true → p) ∧ dOK S o.dst ∧ K (S.qu o.dst (.gd b x))) := by simp [Uj, gv]
@[go_sem] theorem zls [Gi] {o : Oper} {c : Option Bool} : Uj P S o K c none = Yi P S o K c (bsD P S o) := rfl
@[go_sem] theorem zl0 [Gi] {o : Oper} {c : Option Bool} : Yi P S o K c none = Kl P S o c K := rfl
@[go_sem] theorem zmg [Gi] {o : Oper} {p : Prop} {x : AV} : Yi P S o K none (some (p, x)) = (p ∧ dOK S o.dst ∧ K (S.qu o.dst x)) := by simp [Yi, gv]
@[go_sem] theorem XA [Gi] {x y : Code} : wpA P D (.seq x y) Q S = wpA P D x (zab P D y Q) S := _root_.id rfl
@[go_sem] theorem zn5 [Gi] {c : Operand} {x y : Code} : wpA P D (.cond c x y) Q S = yB P D x y Q S (S.ev c) := _root_.id rfl
@[go_sem] theorem zm0 [Gi] {id : Nat} {c : Code} : wpA P D (.block id c) Q S = wpA P D c (zgA id Q) S := _root_.id rfl
@[go_sem] theorem znT [Gi] {id : Nat} : wpA P D (.exit id) Q S = Q (.exit id) S := _root_.id rfl
@[go_sem] theorem zom [Gi] : wpA P D .ret Q S = Q .ret S := _root_.id rfl
@[go_sem] theorem zlj [Gi] {x y : Code} : yB P D x y Q S (.p (.bool true)) = wpA P D x Q S := by simp [yB]
@[go_sem] theorem zkY [Gi] {x y : Code} : yB P D x y Q S (.p (.bool false)) = wpA P D y Q S := by simp [yB]
theorem qc [Gi] {x y:Code} {b:Bool}(h1:b=true→wpA P D x Q S)(h2:b=false→wpA P D y Q S):yB P D x y Q S (.p (.bool b)):=⟨h1,h2⟩
theorem zt [Gi] {x y:Code} {p:Prop}[Decidable p](h1:p→wpA P D x Q S)(h2:¬p→wpA P D y Q S):yB P D x y Q S (.p (.bool (decide p))):=⟨fun h=>h1 (of_decide_eq_true h),fun h=>h2 (of_decide_eq_false h)⟩
theorem zgz [Gi] {x y:Code} {p:Prop}[Decidable p](h1:¬p→wpA P D x Q S)(h2:p→wpA P D y Q S):yB P D x y Q S (.p (.bool (!decide p))):=⟨fun h=>h1 (by simpa using h),fun h=>h2 (by simpa using h)⟩
@[go_sem] theorem zb8 [Gi] {y : Code} : zab P D y Q .normal S = wpA P D y Q S := _root_.id rfl
@[go_sem] theorem zmR [Gi] {y : Code} {i : Nat} : zab P D y Q (.exit i) S = Q (.exit i) S := _root_.id rfl
@[go_sem] theorem zne [Gi] {y : Code} : zab P D y Q .ret S = Q .ret S := _root_.id rfl
@[go_sem] theorem zkU {id : Nat} : zgA id Q .normal S = Q .normal S := rfl
@[go_sem] theorem zm4 {id i : Nat} : zgA id Q (.exit i) S = if i = id then Q .normal S else Q (.exit i) S := rfl
@[go_sem] theorem znF {id : Nat} : zgA id Q .ret S = Q .ret S := rfl
end
def Uu {ι:Type}(inv:ι→Prop)(st:ι→St)(m:ι→Nat)(i:ι)(Q:Exit→St→Prop):Exit→St→Prop:=fun e S=>match e with|.normal=>∃j:{i:ι//inv i},LeR S (st j.1)∧m j.1<m i|e=>Q e S
@[go_sem] theorem zlw {ι : Type} {inv : ι → Prop} {st : ι → St} {m : ι → Nat} {i : ι} {Q : Exit → St → Prop} {S : St} {k : Nat} : Uu inv st m i Q (.exit k) S = Q (.exit k) S := rfl
@[go_sem] theorem zm6 {ι : Type} {inv : ι → Prop} {st : ι → St} {m : ι → Nat} {i : ι} {Q : Exit → St → Prop} {S : St} : Uu inv st m i Q .ret S = Q .ret S := rfl
theorem zg {ι:Type} {inv:ι→Prop} {st:ι→St} {m:ι→Nat} {i:ι} {Q:Exit→St→Prop} {S:St}(j:ι)(h1:inv j)(h2:LeS S (st j))(h3:m j<m i):Uu inv st m i Q .normal S:=⟨⟨j,h1⟩,.inl h2,h3⟩
theorem Ud {ι:Type} {inv:ι→Prop} {st:ι→St} {m:ι→Nat} {i:ι} {Q:Exit→St→Prop} {S:St}(j:ι)(mm:List (Tok×Tok))(h1:inv j)(h2:(okM 1000000 mm=true∧S.pin.all (fun t=>inM mm t==some t)=true)∧LeS (zbV S mm) (st j))(h3:m j<m i):Uu inv st m i Q .normal S:=⟨⟨j,h1⟩,.inr ⟨mm,h2.1.1,h2.1.2,h2.2⟩,h3⟩
theorem Z7 [Gi] {P:Program} {D:List Nat} {c:Code} {Q:Exit→St→Prop} {S:St} {ι:Type}(inv:ι→Prop)(st:ι→St)(m:ι→Nat)(i:ι)(hi:inv i)(h0:LeS S (st i))(h:∀i,inv i→wpA P D c (Uu inv st m i Q) (st i)):wpA P D (.loop c) Q S:=
 ⟨{i:ι//inv i},fun i=>st i.1,fun i=>m i.1,⟨⟨i,hi⟩,h0⟩,fun i=>h i.1 i.2⟩
theorem zp {α:Type}(f:α→PV)(l:List α)(n:Nat)(h:n<l.length):elemAt (l.map f) n=f l[n]:=by simp[elemAt,h]
theorem zht(x:AV):leA x x:=.inl rfl
theorem zh {P:Program} {ts:List (Nat×Option TypeId)} {R:AV→List (Tok×List AV)→Prop} {S:St}(x:AV)(hp:S.pin=[])(hx:(zf P S ts).1∧leT ((zf P S ts).2.upd (AM.fil (fun _=>false) ftt)) x)(hR:R x []):uz P [] ts R S:=by
 have e:(fun t:Tok=>([]:List Tok).contains t)=fun _=>false:=by funext t;simp
 refine⟨[],x,⟨hp,by rw[hp];rfl⟩,by rw[e];exact hx,?_⟩
 have:∀l:List (Tok×List AV),Wl [] l=[]:=fun l=>by simp[Wl]
 rw[this];exact hR
@[go_sem] theorem zm8 {P : Program} {pin : List Tok} {ts : List (Nat × Option TypeId)} {R : AV → List (Tok × List AV) → Prop} {S : St} : WG P pin ts R .ret S = uz P pin ts R S := _root_.id rfl
@[go_sem] theorem zjM {P : Program} {pin : List Tok} {ts : List (Nat × Option TypeId)} {R : AV → List (Tok × List AV) → Prop} {S : St} : WG P pin ts R .normal S = uz P pin ts R S := _root_.id rfl
theorem wrap64 [Gi] {x:Int}(h1: -9223372036854775808≤x)(h2:x≤9223372036854775807):IntKind.i64.wrap x=x:=by
 simp only[IntKind.wrap,IntKind.signed,IntKind.bits]
 simp
 omega
attribute [go_sem] z5 XB Option.map_some Option.map_none zaQ Vd okC eqC zhU ziG ziM zgm zbB zaB zes zhG K4 Wt zaT ziA Wj yz vT Vn Vq Vr St.itz itz yn Wo ZG uG sbD JS St.fz fz fz1 qK zcT un1 un2 unG St.ev St.get St.set St.kept look zal zl QB qn St.qu dOK kF znS ZE uV
attribute [go_sem] zfX zbO zbA zce wJ W9 XF ptrEq xv Vm U0 zae z7 wY vd XY u4 bad
attribute [go_sem] zhu zgF VL vH zbi VX unA zbC WD Us Q5 zcL QW QY kA Xk UO uk JU KI wT zaD sliceB Ko zhX zdY Wu xZ xZ.sl Option.bind_some Option.bind_none
attribute [go_sem] VV Zh uF zkn kn yY toP zhC za8 PV.cells PV.one PV.fits Vl ZD zhD vO W5 Kv yh VC Qw zQ zc8 Wm zkB zir ke sizedB zeb
attribute [go_sem] bzC x7 zbV zib vK WY zmr zgy Ju Ql kW yw Qo wB Qj Ur ZN zfu AV.ren UP kG inM Q2 okM qB q8 Zd QQ we uv zcW wO VE jI yV
attribute [go_sem] St.fil AV.upd fil zM qP ftt
theorem zd [Gi] {P:Program} {S:St} {f:FuncId} {args:List Operand} {dst:Option Nat} {K:St→Prop}(m:List (Tok×Tok)) {pin:List Tok} {as1:List AV} {rs:List (Tok×List AV)} {R:AV→List (Tok×List AV)→Prop}(hC:CR P f pin as1 rs R)
  (hm:okM (dst.getD S.n) m=true∧S.pin.all (q8 (dst.getD S.n) m pin)=true∧dOK S dst) (ha:(ZN S m args).1∧(ZN S m args).2=as1) (hr:qB S m m=rs)
  (hk:∀x rs',R x rs'→K ((uv S (dst.getD S.n) m pin rs').qu dst (x.ren fun u=>some (Q2 (dst.getD S.n) m u)))):Jp P S f args dst K:=by
 subst hr
 obtain⟨ha,rfl⟩:=ha
 exact⟨m,pin,R,hm,ha,hC,hk⟩
theorem zu {P:Program} {pin:List Tok} {ts:List (Nat×Option TypeId)} {R:AV→List (Tok×List AV)→Prop} {S:St}(kr:List Tok)(x:AV)(hp:S.pin=pin∧pin.all (fun t=>kr.contains t)=true)(hx:(zf P S ts).1∧leT ((zf P S ts).2.upd (AM.fil (fun t=>kr.contains t) ftt)) x)(hR:R x (Wl kr (S.fil (fun t=>kr.contains t) ftt).rs)):uz P pin ts R S:=by
 obtain⟨rfl,hp⟩:=hp
 exact⟨kr,x,⟨rfl,hp⟩,hx,hR⟩
attribute [go_sem] Wl List.getElem?_cons_zero
def St.ofR(rs:List (Tok×List AV)):St:={n:=0,nv:=0,vs:=[],ts:=[],rs:=rs}
theorem GS.Zu [Gi] {g:Gh} {w:World} {rs:List (Tok×List AV)}(h:GS g w rs) {d:Nat} {m:List (Tok×Tok)}(ok:okM d m=true):GS (g.Zu m) w (qB (St.ofR rs) m m):=by
 refine⟨fun b u hk=>?_,fun b b' u hk hk'=>?_,fun b b' u hk hk'=>?_,fun b hb=>h.own b (fun e=>hb ?_),h.frb,fun b arr e=>⟨by show(g.K b).ren _=.prot;rw[(h.gl b arr e).1];rfl,(h.gl b arr e).2⟩⟩
 ·obtain⟨t,hk,hu⟩:=Kd.ZH.1 hk
  obtain⟨cs,hl,h0,arr,T,hb,hle,hc⟩:=h.roots b t hk
  refine⟨_,wG (S:=St.ofR rs) (Z5 ok hu) hl,h0,arr,T,hb,by simpa using hle,fun j x hj=>?_⟩
  simp only[List.getElem?_map,Option.map_eq_some_iff]at hj
  obtain⟨y,hy,rfl⟩:=hj
  obtain⟨v,hv,h1,r⟩:=hc j y hy
  exact⟨v,hv,h1,zb.ren (Ren.Zu g m) _ _ r⟩
 ·obtain⟨t,hk,hu⟩:=Kd.ZH.1 hk
  obtain⟨t',hk',hu'⟩:=Kd.ZH.1 hk'
  have e:=Z5 ok hu
  rw[Z5 ok hu']at e;injection e with e;subst e
  exact h.ur b b' _ hk hk'
 ·obtain⟨t,hk,hu⟩:=Kd.y9.1 hk
  obtain⟨t',hk',hu'⟩:=Kd.y9.1 hk'
  have e:=Z5 ok hu
  rw[Z5 ok hu']at e;injection e with e;subst e
  exact h.ut b b' _ hk hk'
 ·show(g.K b).ren _=.prot
  rw[e];rfl
theorem CR.ren [Gi] {P:Program} {f:FuncId} {pin:List Tok} {args:List AV} {rs:List (Tok×List AV)} {R R':AV→List (Tok×List AV)→Prop}(h:CR P f pin args rs R)(d:Nat)
  (hr:∀x rs',R x rs'→∃m,okM d m=true∧pin.all (fun t=>inM m t==some t)=true∧R' (x.ren (inM m)) (qB (St.ofR rs') m m)):CR P f pin args rs R':=by
 intro w g vs h1 h2
 refine(h w g vs h1 h2).mono ?_
 rintro e w' ⟨v,x,rs',g',rfl,hR,hx,hG,hA⟩
 obtain⟨m,ok,hp,hR'⟩:=hr x rs' hR
 refine⟨v,_,_,g'.Zu m,rfl,hR',zb.ren (Ren.Zu g' m) _ _ hx,hG.Zu ok,⟨fun b hb hk=>?_,hA.ext,hA.out,hA.mono,fun b t hk ht=>?_⟩⟩
 ·obtain⟨a1,a2,a3⟩:=hA.frame b hb hk
  exact⟨a1,a2,by show(g'.K b).ren _=.prot;rw[a3];rfl⟩
 ·have:=List.all_eq_true.1 hp t ht
  simp at this
  exact⟨Kd.ZH.2 ⟨t,(hA.pins b t hk ht).1,this⟩,(hA.pins b t hk ht).2⟩
attribute [go_sem] St.ofR leT leP
theorem Zt [Gi] {P:Program} {S:St} {dst:Option Nat} {x:Operand} {args:Array Operand} {argTypes:Array TypeId} {tt:TypeId} {pos:String} {after:Array Edge} {guard:Option (Nat×Bool)} {r:AV}(f:FuncId) {as1:List AV}
  (hC:CR P f [] as1 [] fun y rs=>rs=[]∧y=r) (hf:zeb (S.ev x)=some f) (hb:((P.funcs[f]?).map (·.body.isSome))=some true∧((P.funcs[f]?).map (·.name))≠some "runtime.NumGoroutine")
  (ha:(ZN S [] args.toList).1∧(ZN S [] args.toList).2=as1):yU P S ⟨dst,.call ⟨.value x,args,argTypes⟩,tt,pos,after,guard⟩ r:=by
 unfold yU
 simp only[hf]
 obtain⟨h1,rfl⟩:=ha
 exact⟨hb,h1,hC⟩
theorem Zs [Gi] {P:Program} {S:St} {o:Oper} {c:Option Bool} {K:St→Prop}(x:AV)(hx:uP x=true)(hv:vE o=true)(hp:c≠some false→yU P S o x)(hk:dOK S o.dst∧K (S.qu o.dst (gv c x))):Kl P S o c K:=
 ⟨x,⟨hx,hv,hp⟩,hk⟩
attribute [go_sem] gv wU bsD bsR zcz zny zeP zja hdr List.isEmpty_cons List.isEmpty_nil vE ZF jY QM zbv W0
def qt {α:Type}(n:Nat)(c:List α):List α:=(List.replicate n c).flatten
theorem qj {α:Type}(n:Nat)(c:List α):(qt n c).length=n*c.length:=by simp[qt]
end Go.AM
end
section
namespace Go.AM
theorem Jp.mono [Gi] {P:Program} {S:St} {f:FuncId} {args:List Operand} {dst:Option Nat} {K K':St→Prop}(hk:∀S,K S→K' S)(h:Jp P S f args dst K):Jp P S f args dst K':=by
 obtain⟨m,pin,R,h1,h2,h3,h4⟩:=h
 exact⟨m,pin,R,h1,h2,h3,fun x rs' hr=>hk _ (h4 x rs' hr)⟩
theorem zeY.mono [Gi] {P:Program} {S:St} {f:FuncId} {cs:List AV} {args:List Operand} {dst:Option Nat} {K K':St→Prop}(hk:∀S,K S→K' S)(h:zeY P S f cs args dst K):zeY P S f cs args dst K':=by
 obtain⟨m,pin,R,h1,h2,h3,h4⟩:=h
 exact⟨m,pin,R,h1,h2,h3,fun x rs' hr=>hk _ (h4 x rs' hr)⟩
theorem zdD [Gi] {P:Program} {S:St} {o:Oper} {K K':St→Prop}(hk:∀S,K S→K' S)(h:Ur P S o K):Ur P S o K':=by
 unfold Ur at h⊢
 split at h
 ·split at h
  ·split at h
   ·exact⟨h.1,h.2.mono hk⟩
   ·split at h
    ·exact⟨h.1,h.2.mono hk⟩
    ·exact h.elim
  ·exact h.elim
 ·split at h
  ·exact⟨h.1,fun e=>hk _ (h.2.1 e),fun i hi=>hk _ (h.2.2 i hi)⟩
  ·exact h.elim
 ·exact h.elim
theorem Yz [Gi] {P:Program} {S:St} {o:Oper} {K K':St→Prop}(hk:∀S,K S→K' S)(h:UK P S o K):UK P S o K':=by
 unfold UK at h⊢
 split at h
 ·exact⟨h.1,hk _ h.2⟩
 ·exact zdD hk h
theorem KP [Gi] {P:Program} {S:St} {o:Oper} {c:Option Bool} {K K':St→Prop}(hk:∀S,K S→K' S)(h:jZ P S o c K):jZ P S o c K':=by
 unfold jZ at h⊢
 split at h
 ·split at h
  ·exact⟨h.1,hk _ h.2⟩
  ·exact⟨h.1,hk _ h.2⟩
 ·split at h
  ·exact Yz hk h
  ·exact⟨fun e=>Yz hk (h.1 e),fun e=>⟨(h.2 e).1,hk _ (h.2 e).2⟩⟩
theorem vt [Gi] {P:Program} {ops:Array Oper}:∀{l:List Oper} {S:St} {K K':St→Prop},(∀S,K S→K' S)→Ze P ops l S K→Ze P ops l S K'
 | [],S,K,K',hk,h=>hk _ h
 |o::l,S,K,K',hk,h=>by
  unfold Ze at h⊢
  split at h
  ·exact KP (fun S' h'=>vt hk h') h
  ·exact h.elim
theorem YA [Gi] {P:Program} {ops:Array Oper}:∀{l:List Oper} {S:St} {K K':St→Prop},(∀S,K S→K' S)→wD P ops l S K→wD P ops l S K'
 | [],S,K,K',hk,h=>hk _ h
 |o::l,S,K,K',hk,h=>by
  unfold wD at h⊢
  split
  ·rename_i hh
   rw[if_pos hh]at h
   split at h
   ·obtain⟨x,h1,h2,h3⟩:=h
    exact⟨x,h1,h2,YA hk h3⟩
   ·exact h.elim
  ·rename_i hh
   rw[if_neg hh]at h
   exact vt hk h
mutual
theorem Xf [Gi] {P:Program} {ops:Array Oper} {K K':St→Prop}(hk:∀S,K S→K' S):∀(t:OT) {S:St},j6 P ops K t S→j6 P ops K' t S
 |.mk [],S,h=>by simp only[j6]at h⊢;exact hk _ h
 |.mk (x::l),S,h=>by simp only[j6]at h⊢;exact JD hk (x::l) h
 |.now i c t,S,h=>by
  simp only[j6]at h⊢
  unfold zcu at h⊢
  split
  ·rename_i o ho
   simp only[ho]at h
   unfold zgR at h⊢
   split
   ·rename_i r hr
    simp only[hr]at h
    exact⟨h.1,h.2.1,Xf hk t h.2.2⟩
   ·rename_i hr
    simp only[hr]at h
  ·rename_i ho
   simp only[ho]at h
theorem JD [Gi] {P:Program} {ops:Array Oper} {K K':St→Prop}(hk:∀S,K S→K' S):∀(l:List (Nat×OT)) {S:St},yc P ops K l S→yc P ops K' l S
 | [],S,_=>by simp only[yc]
 |(i,t)::l,S,h=>by
  simp only[yc]at h⊢
  refine⟨?_,JD hk l h.2⟩
  have h1:=h.1
  cases ho:ops[i]? with
  |none=>rw[ho]at h1;exact h1.elim
  |some o=>
   rw[ho]at h1
   simp only at h1⊢
   cases hg:z5 ops S o with
   |none=>rw[hg]at h1;exact h1.2.elim
   |some c=>rw[hg]at h1;exact⟨h1.1,KP (fun S' h'=>Xf hk t h') h1.2⟩
end
theorem Z6 [Gi] {P:Program} {D:List Nat}:∀(c:Code) {Q Q':Exit→St→Prop} {S:St},(∀e S,Q e S→Q' e S)→wpA P D c Q S→wpA P D c Q' S
 |.skip,Q,Q',S,hq,h=>by simp only[wpA]at h⊢;exact hq _ _ h
 |.region id ops draw,Q,Q',S,hq,h=>by
  simp only[wpA]at h⊢
  split
  ·rename_i hc;rw[if_pos hc]at h;exact zc0 (fun S h=>hq _ _ h) h
  rename_i hl0
  rw[if_neg hl0]at h
  split
  ·rename_i hc;rw[if_pos hc]at h;exact zdZ (fun S h=>hq _ _ h) h
  ·rename_i hl
   rw[if_neg hl]at h
   split
   ·rename_i hc;rw[if_pos hc]at h;exact YA (fun S h=>hq _ _ h) h
   ·rename_i hc;rw[if_neg hc]at h;exact vt (fun S h=>hq _ _ h) h
 |.seq x y,Q,Q',S,hq,h=>by
  simp only[wpA]at h⊢
  refine Z6 x (fun e S' h'=>?_) h
  cases e with
  |normal=>exact Z6 y hq h'
  |_=>exact hq _ _ h'
 |.cond c x y,Q,Q',S,hq,h=>by
  simp only[wpA]at h⊢
  split at h
  ·exact⟨fun e=>Z6 x hq (h.1 e),fun e=>Z6 y hq (h.2 e)⟩
  ·exact h.elim
 |.block id c,Q,Q',S,hq,h=>by
  simp only[wpA]at h⊢
  refine Z6 c (fun e S' h'=>?_) h
  cases e with
  |exit i=>
   simp only[]at h'⊢
   split
   ·rename_i hi;rw[if_pos hi]at h';exact hq _ _ h'
   ·rename_i hi;rw[if_neg hi]at h';exact hq _ _ h'
  |_=>exact hq _ _ h'
 |.loop c,Q,Q',S,hq,h=>by
  simp only[wpA]at h⊢
  obtain⟨ι,st,m,h0,hr⟩:=h
  refine⟨ι,st,m,h0,fun i=>Z6 c (fun e S' h'=>?_) (hr i)⟩
  cases e with
  |normal=>exact h'
  |_=>exact hq _ _ h'
 |.exit id,Q,Q',S,hq,h=>by simp only[wpA]at h⊢;exact hq _ _ h
 |.ret,Q,Q',S,hq,h=>by simp only[wpA]at h⊢;exact hq _ _ h
 |.rangeFunc ..,Q,Q',S,hq,h=>by simp only[wpA]at h
 |.scope _,Q,Q',S,hq,h=>by simp only[wpA]at h
 |.label _,Q,Q',S,hq,h=>by simp only[wpA]at h
 |.goto _,Q,Q',S,hq,h=>by simp only[wpA]at h
 |.refuse _,Q,Q',S,hq,h=>by simp only[wpA]at h
def zbW {ι:Type}(st:ι→St)(Q:Exit→St→Prop):Exit→St→Prop:=fun e S=>match e with|.normal=>∃i,S=st i|e=>Q e S
@[go_sem] theorem zly {ι : Type} {st : ι → St} {Q : Exit → St → Prop} {S : St} {k : Nat} : zbW st Q (.exit k) S = Q (.exit k) S := rfl
@[go_sem] theorem zmG {ι : Type} {st : ι → St} {Q : Exit → St → Prop} {S : St} : zbW st Q .ret S = Q .ret S := rfl
theorem kg {ι:Type} {st:ι→St} {Q:Exit→St→Prop} {S:St}(i:ι)(h:S=st i):zbW st Q .normal S:=⟨i,h⟩
theorem xO [Gi] {P:Program} {D:List Nat} {x y rest:Code} {Q:Exit→St→Prop} {S:St} {v:AV} {ι:Type}(st:ι→St)(h:yB P D x y (zbW st Q) S v)(hr:∀i,wpA P D rest Q (st i)):yB P D x y (zab P D rest Q) S v:=by
 have hq:∀e S,zbW st Q e S→zab P D rest Q e S:=fun e S h=>by
  cases e with
  |normal=>obtain⟨i,rfl⟩:=h;exact hr i
  |_=>exact h
 unfold yB at h⊢
 split at h
 ·exact⟨fun e=>Z6 x hq (h.1 e),fun e=>Z6 y hq (h.2 e)⟩
 ·exact h.elim
theorem zi:∀l:List AV,leL l l
 | []=>trivial
 |x::l=>⟨zht x,zi l⟩
attribute [go_sem] has
end Go.AM
end
section
namespace Go.AM
open Go.ChangeShapes Go.WideShapes
def frW(w:World)(b:Nat):Nat:=match w.heap[b]? with
 |some (.cells c _ _)=>c.size
 |_=>0
theorem zit {w:World} {a:Addr} {v:Value}(h:w.cell? a=some v):a.spot=none∧a.off<frW w a.block:=by
 unfold World.cell? at h
 unfold frW
 split at h
 ·rename_i c _ _ hb
  rw[hb]
  split at h
  ·cases h
  ·rename_i hs
   refine⟨by cases hq:a.spot with
    |none=>rfl
    |some _=>rw[hq]at hs;simp at hs,(Array.getElem?_eq_some_iff.1 h).1⟩
 ·cases h
section
variable {H:Type} {enc:TypeId×Value→H} {P:Program} {w:World} {base:Nat} {spare:Nat→Bool} {held:Bool}
def xj(enc:TypeId×Value→H)(P:Program)(w:World)(base:Nat)(spare:Nat→Bool)(held:Bool)(t:TypeId)(Q:List PV→Prop):Prop:=
 ∀(fuel:Nat) (cs:List Value) (x:DataW H×List MemPlace),DataW.trod enc P w base spare held fuel t cs=some x→∃xs,Q xs∧zr (frW w) w xs cs
theorem VO {t:TypeId} {k:IntKind}(ht:P.underlying t=some (.int k)):xj enc P w base spare held t fun xs=>∃n,xs=[.int k n]∧(Lit.int k n).wf=true:=by
 intro fuel cs x h
 cases fuel with
 |zero=>simp[DataW.trod]at h
 |succ n=>
  unfold DataW.trod at h
  rw[ht]at h
  split at h<;>simp_all
  exact⟨[.int _ _],⟨_,rfl,h.1.2⟩,⟨_,[],rfl,rfl,rfl,rfl⟩⟩
theorem qk.mk {fr:Nat→Nat} {w:World} {z b:Nat}:∀{es:List PV} {o:Nat},(∀(i:Nat) (e:PV),es[i]?=some e→∃v,zj fr w e v∧v.cells.size=z∧∀j c,v.cells[j]?=some c→c.oneCell'=true∧w.cell? ⟨b,o+i*z+j,none⟩=some c)→qk fr w z b es o
 | [],o,h=>by simp only[qk]
 |x::es,o,h=>by
  simp only[qk]
  refine⟨by simpa using h 0 x rfl,qk.mk fun i e he=>?_⟩
  have:=h (i+1) e (by simpa using he)
  rwa[show o+(i+1)*z=o+z+i*z from by rw[Nat.add_mul];omega]at this
theorem Ug {R:Nat→PV→Prop}:∀{n:Nat},(∀i,i<n→∃el,R i el)→∃es:List PV,es.length=n∧∀i el,es[i]?=some el→R i el
 |0,_=>⟨[],rfl,by simp⟩
 |n+1,h=>by
  obtain⟨es,h1,h2⟩:=Ug (n:=n) fun i hi=>h i (by omega)
  obtain⟨el,hr⟩:=h n (by omega)
  refine⟨es++[el],by simp[h1],fun i x hx=>?_⟩
  rw[List.getElem?_append]at hx
  split at hx
  ·exact h2 i x hx
  ·rename_i hi
   have hl:=(List.getElem?_eq_some_iff.1 hx).1
   simp at hl
   have:i=n:=by omega
   subst this
   simp[h1]at hx
   subst hx
   exact hr
theorem Ut {t e : TypeId} {QE : PV → Prop} (ht : P.underlying t = some (.slice e)) (hz : 0 < P.cellsOf e)
    (hel : ∀ (fuel : Nat) (cs : List Value) (x : DataW H × List MemPlace), DataW.trod enc P w base spare held fuel e cs = some x → ∃ el v, QE el ∧ zj (frW w) w el v ∧ v.cells.toList = cs ∧ ∀ c ∈ cs, c.oneCell' = true) :
    xj enc P w base spare held t fun xs => ∃ es, xs = [.sl (P.cellsOf e) es] ∧ ∀ el ∈ es, QE el := by
  intro fuel cs x h
  rcases Go.Deep.open_slice ht h with ⟨rfl, _⟩ | ⟨a, len, cap, m, n, D, Pl, rfl, hb, hlc, _, hm, _, hi⟩
  · exact ⟨_, ⟨[], rfl, by simp⟩, by simp only [zr, zj]; exact ⟨_, [], rfl, rfl, .inl ⟨trivial, _, _, rfl⟩, rfl⟩⟩
  · have hlm : len ≤ m := by rw [hm]; split <;> omega
    have each : ∀ i, i < len → ∃ el v, QE el ∧ zj (frW w) w el v ∧ v.cells.size = P.cellsOf e ∧ ∀ j c, v.cells[j]? = some c → c.oneCell' = true ∧ w.cell? ((a.add (i * P.cellsOf e)).add j) = some c := by
      intro i hil
      obtain ⟨cs', h1, h2⟩ := hi i (by omega)
      obtain ⟨el, v, q, r, hv, hone⟩ := hel _ _ _ h2
      obtain ⟨k1, k2, k3⟩ := World.cells?_some h1
      refine ⟨el, v, q, r, by have : v.cells.toList.length = cs'.length := by rw [hv]
                              simpa [k2] using this, fun j c hj => ?_⟩
      have hj' : cs'[j]? = some c := by rw [← hv]; simpa using hj
      have hjl : j < P.cellsOf e := by have := (List.getElem?_eq_some_iff.1 hj').1; omega
      exact ⟨hone c (List.mem_of_getElem? hj'), (k3 j hjl).trans hj'⟩
    obtain ⟨es, hlen, hes⟩ := Ug each
    subst hlen
    refine ⟨_, ⟨es, rfl, fun el hel' => ?_⟩, ?_⟩
    · obtain ⟨i, hi'⟩ := List.mem_iff_getElem?.1 hel'
      obtain ⟨v, q, _⟩ := hes i el hi'
      exact q
    · simp only [zr, zj]
      refine ⟨_, [], rfl, rfl, ?_, rfl⟩
      by_cases h0 : es.length = 0
      · exact .inl ⟨List.eq_nil_of_length_eq_zero h0, _, _, by rw [h0]⟩
      · right
        have cell : ∀ i j, i < es.length → j < P.cellsOf e → ∃ c, w.cell? ((a.add (i * P.cellsOf e)).add j) = some c := fun i j hi' hj => by
          obtain ⟨el, v, _, _, hs, hc⟩ := each i hi'
          have : j < v.cells.size := by omega
          exact ⟨_, (hc j _ (Array.getElem?_eq_getElem this)).2⟩
        obtain ⟨c0, hc0⟩ := cell 0 0 (by omega) hz
        simp only [Nat.zero_mul, Addr.add, if_true] at hc0
        have hsp := (zit hc0).1
        obtain ⟨b, o, sp⟩ := a
        simp only at hsp
        subst hsp
        refine ⟨b, o, cap, rfl, hlc, ?_, qk.mk fun i el hi' => ?_⟩
        · obtain ⟨c1, hc1⟩ := cell (es.length - 1) (P.cellsOf e - 1) (by omega) (by omega)
          rw [qf, qf] at hc1
          have := (zit hc1).2
          simp only at this
          have e1 : es.length * P.cellsOf e = (es.length - 1) * P.cellsOf e + P.cellsOf e := by
            obtain ⟨k, hk⟩ : ∃ k, es.length = k + 1 := ⟨es.length - 1, by omega⟩
            rw [hk, Nat.add_mul]; simp
          omega
        · obtain ⟨v, _, r, hs, hc⟩ := hes i el hi'
          refine ⟨v, r, hs, fun j c hj => ?_⟩
          have := hc j c hj
          rw [qf, qf] at this
          exact this
def u6:List (List PV→Prop)→List PV→Prop
 | [],xs=>xs=[]
 |Q::Qs,xs=>∃a b,xs=a++b∧Q a∧u6 Qs b
def laid(P:Program):List Field→Nat→Nat→Bool
 | [],o,n=>o==n
 |f::fs,o,n=>f.offset==o&&laid P fs (o+P.cellsOf f.type) n
def zlY(enc:TypeId×Value→H)(P:Program)(w:World)(base:Nat)(spare:Nat→Bool)(held:Bool):List Field→List (List PV→Prop)→Prop
 | [],[]=>True
 |f::fs,Q::Qs=>xj enc P w base spare held f.type Q∧zlY enc P w base spare held fs Qs
 |_,_=>False
theorem Uh {cs:List Value} {m:Nat}:∀{fs:List Field} {Qs:List (List PV→Prop)} {o:Nat},zlY enc P w base spare held fs Qs→laid P fs o cs.length=true→
  (∀f∈fs,∃y,DataW.trod enc P w base spare held m f.type ((cs.drop f.offset).take (P.cellsOf f.type))=some y)→∃xs,u6 Qs xs∧zr (frW w) w xs (cs.drop o)
 | [],[],o,_,hl,_=>by
  simp only[laid,beq_iff_eq]at hl
  exact⟨[],rfl,by simp[zr,hl]⟩
 | [],_::_,_,h,_,_=>h.elim
 |_::_,[],_,h,_,_=>h.elim
 |f::fs,Q::Qs,o,h,hl,hy=>by
  simp only[laid,Bool.and_eq_true,beq_iff_eq]at hl
  obtain⟨y,e⟩:=hy f (by simp)
  obtain⟨a,qa,ra⟩:=h.1 _ _ _ e
  obtain⟨b,qb,rb⟩:=Uh h.2 hl.2 (fun g hg=>hy g (by simp[hg]))
  refine⟨a++b,⟨a,b,rfl,qa,qb⟩,?_⟩
  rw[hl.1]at ra
  rw[←List.take_append_drop (P.cellsOf f.type) (cs.drop o),List.drop_drop]
  exact zr.append ra rb
theorem XG {t:TypeId} {fs:Array Field} {Qs:List (List PV→Prop)}(ht:P.underlying t=some (.struct fs))(hl:laid P fs.toList 0 (P.cellsOf t)=true)(hQ:zlY enc P w base spare held fs.toList Qs):
  xj enc P w base spare held t (u6 Qs):=by
 intro fuel cs x h
 obtain⟨xs,n,_,_,hc,hlen,hf⟩:=DataW.trod_struct ht h
 rw[←hc]at hl
 obtain⟨ys,q,r⟩:=Uh (cs:=cs) (m:=n) hQ hl (fun f hm=>by
  obtain⟨i,hi⟩:=List.mem_iff_getElem?.1 hm
  have hi':fs[i]?=some f:=by simpa using hi
  have hx:=hf i f hi'
  have:i<xs.length:=by rw[hlen];exact(Array.getElem?_eq_some_iff.1 hi').1
  exact⟨xs[i],by rw[hx];simp[this]⟩)
 exact⟨ys,q,by simpa using r⟩
theorem zhO {e:TypeId} {Q:PV→Prop}(h:xj enc P w base spare held e fun xs=>∃x,xs=[x]∧Q x):
  ∀(fuel:Nat) (cs:List Value) (x:DataW H×List MemPlace),DataW.trod enc P w base spare held fuel e cs=some x→∃el v,Q el∧zj (frW w) w el v∧v.cells.toList=cs∧∀c∈cs,c.oneCell'=true:=by
 intro fuel cs x hx
 obtain⟨xs,⟨y,rfl,q⟩,r⟩:=h _ _ _ hx
 simp only[zr]at r
 obtain⟨v,vs',rfl,h1,h2,rfl⟩:=r
 refine⟨y,v,q,h2,?_,by simpa using h1⟩
 cases v<;>simp_all [Value.oneCell',Value.cells]
end
end Go.AM
end
