/- A part of the proof of this seat's statements, by an abstract machine: what each operation does to values, and what the law's functions compute. Conditions: as each law says. -/
import Derived.Test.YtjefahhmkcfiiaaGreatN17
import Derived.KernelRfl
import Derived.Test.YtjefahhmkcfiiaaGreatChecked
import Derived.Eval
section
namespace Go.AM
def zlJ [Gi](P:Program)(ops:Array Oper)(rest:List Oper)(K:St→Prop):St→Prop:=fun S=>Z6 P ops rest S K
def zeB [Gi](P:Program)(D:List Nat)(y:Code)(Q:Exit→St→Prop):Exit→St→Prop:=fun e S=>match e with|.normal=>wpA P D y Q S|e=>Q e S
def zgI(id:Nat)(Q:Exit→St→Prop):Exit→St→Prop:=fun e S=>match e with|.exit i=>if i=id then Q .normal S else Q (.exit i) S|e=>Q e S
def WJ [Gi](P:Program)(S:St)(o:Oper)(K:St→Prop):Option (Option Bool)→Prop
 |some c=>xh P S o c K
 |none=>False
def Ks [Gi](P:Program)(S:St)(o:Oper)(K:St→Prop)(c:Option Bool):Option PR→Prop
 |some r=>match c with
  |none=>(r.1∧dOK S o.dst)∧K (S.qH o.dst r.2)
  |some c=>((c=true→r.1)∧dOK S o.dst)∧K (S.qH o.dst (.gd c r.2))
 |none=>match c with
  |none=>KN P S o K
  |some c=>(c=true→KN P S o K)∧(c=false→dOK S o.dst∧K (S.qH o.dst (.gd false .zZ)))
def X6 [Gi](P:Program)(S:St)(o:Oper)(K:St→Prop):Option (Prop×St)→Prop
 |some r=>r.1∧K r.2
 |none=>Kj P S o K
def ub [Gi](P:Program)(D:List Nat)(x y:Code)(Q:Exit→St→Prop)(S:St):AV→Prop
 |.p (.bool b)=>(b=true→wpA P D x Q S)∧(b=false→wpA P D y Q S)
 |_=>False
section
variable {P:Program} {D:List Nat} {ops:Array Oper} {S:St} {K:St→Prop} {Q:Exit→St→Prop}
@[go_sem] theorem znJ [Gi] : Z6 P ops [] S K = K S := _root_.id rfl
@[go_sem] theorem zmW [Gi] {o : Oper} {rest : List Oper} : Z6 P ops (o :: rest) S K = WJ P S o (zlJ P ops rest K) (qO ops S o) := by
 simp only[Z6];unfold WJ;split<;>simp_all;rfl
@[go_sem] theorem zni [Gi] {rest : List Oper} : zlJ P ops rest K S = Z6 P ops rest S K := _root_.id rfl
@[go_sem] theorem zlh [Gi] {o : Oper} {c : Option Bool} : WJ P S o K (some c) = Ks P S o K c (Zt P S o) := by
 unfold WJ xh Ks;rfl
@[go_sem] theorem zmI [Gi] {o : Oper} {c : Prop} {x : AV} : Ks P S o K none (some (c, x)) = ((c ∧ dOK S o.dst) ∧ K (S.qH o.dst x)) := rfl
@[go_sem] theorem zns [Gi] {o : Oper} {b : Bool} {c : Prop} {x : AV} : Ks P S o K (some b) (some (c, x)) = (((b = true → c) ∧ dOK S o.dst) ∧ K (S.qH o.dst (.gd b x))) := rfl
@[go_sem] theorem zm7 [Gi] {o : Oper} : Ks P S o K none none = X6 P S o K (zdw P S o) := by
 unfold Ks KN X6;rfl
@[go_sem] theorem zlu [Gi] {o : Oper} {b : Bool} : Ks P S o K (some b) none = ((b = true → X6 P S o K (zdw P S o)) ∧ (b = false → dOK S o.dst ∧ K (S.qH o.dst (.gd false .zZ)))) := by
 unfold Ks KN X6;rfl
@[go_sem] theorem zmD [Gi] {o : Oper} {c : Prop} {S' : St} : X6 P S o K (some (c, S')) = (c ∧ K S') := rfl
@[go_sem] theorem zly [Gi] {o : Oper} : X6 P S o K none = Kj P S o K := rfl
@[go_sem] theorem znN [Gi] : wpA P D .skip Q S = Q .normal S := _root_.id rfl
@[go_sem] theorem zlR [Gi] {id : Nat} {l : List Oper} : wpA P D (.region id l.toArray false) Q S = Z6 P l.toArray l { S with ts := [] } (Q .normal) := _root_.id rfl
def zcx [Gi](P:Program)(l:List Oper)(K:St→Prop)(S:St):Bool→Prop
 |true=>vu P l.toArray l (VT P l S) K
 |false=>Z6 P l.toArray l S K
def zdD [Gi](P:Program)(l:List Oper)(K:St→Prop)(S:St):Bool→Bool→Prop
 |true,_=>Vs P l.toArray S K
 |false,c=>zcx P l K S c
def zfZ [Gi](P:Program)(l:List Oper)(K:St→Prop)(S:St):Bool→Bool→Bool→Prop
 |true,_,_=>zfJ P l.toArray K S
 |false,b,c=>zdD P l K S b c
@[go_sem] theorem zk9 [Gi] {id : Nat} {l : List Oper} : wpA P D (.region id l.toArray true) Q S = zfZ P l (Q .normal) { S with ts := [] } (D.contains (id + 200000)) (D.contains (id + 100000)) (D.contains id) := by
 unfold zfZ zdD zcx
 simp only[wpA,Bool.true_and]
 cases D.contains (id+200000)<;>cases D.contains (id+100000)<;>cases D.contains id<;>rfl
@[go_sem] theorem zlf [Gi] {l : List Oper} {K : St → Prop} {b c : Bool} : zfZ P l K S false b c = zdD P l K S b c := _root_.id rfl
theorem Zg [Gi] {l:List Oper} {K:St→Prop} {b c:Bool}(t:OT)(h1:(Region.noSelect l.toArray&&okT l.toArray l.toArray.size (Array.replicate l.toArray.size false) t)=true)(h2:kZ P l.toArray K t S):zfZ P l K S true b c:=⟨t,K,h1,h2,fun _ h=>.inl h⟩
def stepT [Gi](P:Program)(ops:Array Oper)(S:St)(K:St→Prop):Option Oper→Prop
 |some o=>zgq (Zt P S o) (zay o)∧WJ P S o K (qO ops S o)
 |none=>False
def zjE [Gi](P:Program)(ops:Array Oper)(K:St→Prop)(t:OT):St→Prop:=fun S=>kZ P ops K t S
@[go_sem] theorem zm8 [Gi] {ops : Array Oper} {K : St → Prop} {t : OT} : zjE P ops K t S = kZ P ops K t S := _root_.id rfl
@[go_sem] theorem znm [Gi] {ops : Array Oper} {K : St → Prop} {i c : Nat} {t : OT} : kZ P ops K (.now i c t) S = zjs P S c (zjE P ops K t) ops[i]? := by simp only [kZ]; rfl
@[go_sem] theorem zna {K : St → Prop} {c : Nat} {o : Oper} : zjs P S c K (some o) = zi8 P S o c K (Zt P S o) := rfl
@[go_sem] theorem zmT {K : St → Prop} {c : Nat} {o : Oper} {p : Prop} {x : AV} : zi8 P S o c K (some (p, x)) = ((p ∧ dOK S o.dst) ∧ zhb c (vL S o x) (Vr o || Ya x) ∧ K (S.qH o.dst x)) := rfl
@[go_sem] theorem zof {a b : Bool} : zhb 0 a b = True := rfl
@[go_sem] theorem zos {a b : Bool} : zhb 1 a b = ((a || b) = true) := rfl
@[go_sem] theorem zop {a b : Bool} : zhb 2 a b = (a = true) := rfl
@[go_sem] theorem znj [Gi] {ops : Array Oper} {K : St → Prop} : kZ P ops K (.mk []) S = K S := by simp only [kZ]
@[go_sem] theorem zmR [Gi] {ops : Array Oper} {K : St → Prop} {x : Nat × OT} {l : List (Nat × OT)} : kZ P ops K (.mk (x :: l)) S = y4 P ops K (x :: l) S := by simp only [kZ]
@[go_sem] theorem zm4 [Gi] {ops : Array Oper} {K : St → Prop} : y4 P ops K [] S = True := by simp only [y4]
@[go_sem] theorem zmj [Gi] {ops : Array Oper} {K : St → Prop} {i : Nat} {t : OT} {l : List (Nat × OT)} : y4 P ops K ((i, t) :: l) S = (stepT P ops S (zjE P ops K t) ops[i]? ∧ y4 P ops K l S) := by
 simp only[y4]
 cases ops[i]? with
 |none=>rfl
 |some o=>simp only[stepT,WJ];cases qO ops S o<;>rfl
@[go_sem] theorem zmJ [Gi] {ops : Array Oper} {K : St → Prop} {o : Oper} : stepT P ops S K (some o) = (zgq (Zt P S o) (zay o) ∧ WJ P S o K (qO ops S o)) := rfl
@[go_sem] theorem zl6 {o : Option PR} : zgq o false = True := rfl
@[go_sem] theorem zlv [Gi] {l : List Oper} {c : Bool} : zdD P l K S true c = Vs P l.toArray S K := _root_.id rfl
@[go_sem] theorem zlj [Gi] {l : List Oper} {c : Bool} : zdD P l K S false c = zcx P l K S c := _root_.id rfl
def zjm(P:Program)(t:Tok)(ov:Nat)(rest:List Oper)(K:St→Prop):Option (Prop×St)→Prop
 |some r=>r.1∧yK P t ov rest r.2 K
 |none=>False
def zaJ(P:Program)(t:Tok)(ov:Nat)(S:St)(o:Oper)(rest:List Oper)(K:St→Prop):Option PR→Prop
 |some r=>(r.1∧(UZ o || Ya r.2)=true∧dOK S o.dst)∧opsL P t ov rest (S.qH o.dst r.2) K
 |none=>False
def zfM(P:Program)(t:Tok)(ov:Nat)(S:St)(o:Oper)(rest:List Oper)(K:St→Prop):Bool→Prop
 |true=>zaJ P t ov S o rest K (Zt P (Vi t S) o)
 |false=>yK P t ov (o::rest) S K
@[go_sem] theorem znS {t : Tok} {ov : Nat} : opsL P t ov [] S K = K S := rfl
@[go_sem] theorem zmS {t : Tok} {ov : Nat} {o : Oper} {rest : List Oper} : opsL P t ov (o :: rest) S K = zfM P t ov S o rest K (Qd o) := by
 unfold zfM zaJ
 simp only[opsL]
 cases Qd o
 ·rfl
 ·simp only[if_true]
  cases Zt P (Vi t S) o<;>rfl
@[go_sem] theorem zmX {t : Tok} {ov : Nat} : yK P t ov [] S K = K S := rfl
@[go_sem] theorem zmF {t : Tok} {ov : Nat} {o : Oper} {rest : List Oper} : yK P t ov (o :: rest) S K = zjm P t ov rest K (zcI P t ov S o) := by
 unfold zjm
 simp only[yK]
 cases zcI P t ov S o<;>rfl
@[go_sem] theorem zmf {t : Tok} {ov : Nat} {o : Oper} {rest : List Oper} : zfM P t ov S o rest K true = zaJ P t ov S o rest K (Zt P (Vi t S) o) := rfl
@[go_sem] theorem zlp {t : Tok} {ov : Nat} {o : Oper} {rest : List Oper} : zfM P t ov S o rest K false = yK P t ov (o :: rest) S K := rfl
@[go_sem] theorem zlr {t : Tok} {ov : Nat} {o : Oper} {rest : List Oper} {r : PR} : zaJ P t ov S o rest K (some r) = ((r.1 ∧ (UZ o || Ya r.2) = true ∧ dOK S o.dst) ∧ opsL P t ov rest (S.qH o.dst r.2) K) := rfl
@[go_sem] theorem zlQ {t : Tok} {ov : Nat} {rest : List Oper} {r : Prop × St} : zjm P t ov rest K (some r) = (r.1 ∧ yK P t ov rest r.2 K) := rfl
attribute [go_sem] vL JU zay Vr
attribute [go_sem] VV UZ Ya zcM ziw Vi zcI Vs
@[go_sem] theorem zmm [Gi] {l : List Oper} : zcx P l K S true = vu P l.toArray l (VT P l S) K := _root_.id rfl
@[go_sem] theorem zll [Gi] {l : List Oper} : zcx P l K S false = Z6 P l.toArray l S K := _root_.id rfl
def zjU [Gi](P:Program)(ops:Array Oper)(rest:List Oper)(K:St→Prop):St→Prop:=fun S=>vu P ops rest S K
@[go_sem] theorem zmO [Gi] {rest : List Oper} : zjU P ops rest K S = vu P ops rest S K := _root_.id rfl
def JL [Gi](P:Program)(S:St)(o:Oper)(c:Option Bool)(K:St→Prop):Prop:=∃x,(WY x=true∧ui o=true∧(c≠some false→xp P S o x))∧dOK S o.dst∧K (S.qH o.dst (gv c x))
def XA [Gi](P:Program)(S:St)(o:Oper)(K:St→Prop)(c:Option Bool):Option PR→Prop
 |some r=>(c≠some false→r.1)∧dOK S o.dst∧K (S.qH o.dst (gv c r.2))
 |none=>JL P S o c K
def Kt [Gi](P:Program)(S:St)(o:Oper)(K:St→Prop)(c:Option Bool):Option PR→Prop
 |some r=>(c≠some false→r.1)∧dOK S o.dst∧K (S.qH o.dst (gv c r.2))
 |none=>XA P S o K c (bsD P S o)
def zbS [Gi](P:Program)(S:St)(o:Oper)(K:St→Prop)(c:Option Bool):Option (Nat×List AV)→Prop
 |some (d,cs)=>(c=none∧S.pin.contains [d]=false∧zH S.rs [d]=some cs)∧dOK S o.dst∧K (S.qH o.dst (.lp [d] 0))
 |none=>Kt P S o K c (vG P S o)
def zf4 [Gi](P:Program)(S:St)(o:Oper)(K:St→Prop):Option (Option Bool)→Prop
 |some c=>zbS P S o K c (jl P o)
 |none=>False
def zf7 [Gi](P:Program)(ops:Array Oper)(S:St)(o:Oper)(rest:List Oper)(K:St→Prop):Bool→Prop
 |true=>zf4 P S o (zjU P ops rest K) (qO ops S o)
 |false=>Z6 P ops (o::rest) S K
@[go_sem] theorem znn [Gi] : vu P ops [] S K = K S := _root_.id rfl
@[go_sem] theorem zmQ [Gi] {o : Oper} {rest : List Oper} : vu P ops (o :: rest) S K = zf7 P ops S o rest K (hdr o rest) := by
 unfold vu zf7
 cases hdr o rest
 ·simp
 ·simp only[if_true]
  unfold zf4
  cases qO ops S o with
  |none=>rfl
  |some c=>
   simp only[]
   unfold zbS VD
   cases hz:jl P o with
   |some dc=>
    obtain⟨d,cs⟩:=dc
    simp only[]
    refine propext ⟨?_,?_⟩
    ·rintro⟨x,⟨rfl,rfl,h1,h2⟩,h3,h4⟩;exact⟨⟨rfl,h1,h2⟩,h3,h4⟩
    ·rintro⟨⟨rfl,h1,h2⟩,h3,h4⟩;exact⟨_,⟨rfl,rfl,h1,h2⟩,h3,h4⟩
   |none=>
    simp only[]
    unfold Kt
    cases hp:vG P S o with
    |none=>
     simp only[]
     unfold XA
     cases hb:bsD P S o with
     |none=>simp only[];unfold JL;rfl
     |some r=>
      simp only[]
      refine propext ⟨?_,?_⟩
      ·rintro⟨x,⟨rfl,h1⟩,h2,h3⟩;exact⟨h1,h2,h3⟩
      ·rintro⟨h1,h2,h3⟩;exact⟨_,⟨rfl,h1⟩,h2,h3⟩
    |some r=>
     simp only[]
     refine propext ⟨?_,?_⟩
     ·rintro⟨x,⟨rfl,h1⟩,h2,h3⟩;exact⟨h1,h2,h3⟩
     ·rintro⟨h1,h2,h3⟩;exact⟨_,⟨rfl,h1⟩,h2,h3⟩
@[go_sem] theorem zmv [Gi] {o : Oper} {rest : List Oper} : zf7 P ops S o rest K true = zf4 P S o (zjU P ops rest K) (qO ops S o) := rfl
@[go_sem] theorem zla [Gi] {o : Oper} {rest : List Oper} : zf7 P ops S o rest K false = Z6 P ops (o :: rest) S K := rfl
@[go_sem] theorem zlK [Gi] {o : Oper} {c : Option Bool} : zf4 P S o K (some c) = zbS P S o K c (jl P o) := rfl
@[go_sem] theorem zl8 [Gi] {o : Oper} {c : Option Bool} : zbS P S o K c none = Kt P S o K c (vG P S o) := rfl
@[go_sem] theorem zlI [Gi] {o : Oper} {c : Option Bool} {d : Nat} {cs : List AV} : zbS P S o K c (some (d, cs)) = ((c = none ∧ S.pin.contains [d] = false ∧ zH S.rs [d] = some cs) ∧ dOK S o.dst ∧ K (S.qH o.dst (.lp [d] 0))) := rfl
@[go_sem] theorem zmu [Gi] {o : Oper} {p : Prop} {x : AV} : Kt P S o K none (some (p, x)) = (p ∧ dOK S o.dst ∧ K (S.qH o.dst x)) := by simp [Kt, gv]
@[go_sem] theorem zmk [Gi] {o : Oper} {b : Bool} {p : Prop} {x : AV} : Kt P S o K (some b) (some (p, x)) = ((b = true → p) ∧ dOK S o.dst ∧ K (S.qH o.dst (.gd b x))) := by simp [Kt, gv]
@[go_sem] theorem zlV [Gi] {o : Oper} {c : Option Bool} : Kt P S o K c none = XA P S o K c (bsD P S o) := rfl
@[go_sem] theorem zme [Gi] {o : Oper} {c : Option Bool} : XA P S o K c none = JL P S o c K := rfl
@[go_sem] theorem zlM [Gi] {o : Oper} {p : Prop} {x : AV} : XA P S o K none (some (p, x)) = (p ∧ dOK S o.dst ∧ K (S.qH o.dst x)) := by simp [XA, gv]
@[go_sem] theorem zaN [Gi] {x y : Code} : wpA P D (.seq x y) Q S = wpA P D x (zeB P D y Q) S := _root_.id rfl
@[go_sem] theorem zn7 [Gi] {c : Operand} {x y : Code} : wpA P D (.cond c x y) Q S = ub P D x y Q S (S.ev c) := _root_.id rfl
@[go_sem] theorem zmZ [Gi] {id : Nat} {c : Code} : wpA P D (.block id c) Q S = wpA P D c (zgI id Q) S := _root_.id rfl
@[go_sem] theorem zno [Gi] {id : Nat} : wpA P D (.exit id) Q S = Q (.exit id) S := _root_.id rfl
@[go_sem] theorem zoa [Gi] : wpA P D .ret Q S = Q .ret S := _root_.id rfl
@[go_sem] theorem zmy [Gi] {x y : Code} : ub P D x y Q S (.p (.bool true)) = wpA P D x Q S := by simp [ub]
@[go_sem] theorem zls [Gi] {x y : Code} : ub P D x y Q S (.p (.bool false)) = wpA P D y Q S := by simp [ub]
theorem qo [Gi] {x y:Code} {b:Bool}(h1:b=true→wpA P D x Q S)(h2:b=false→wpA P D y Q S):ub P D x y Q S (.p (.bool b)):=⟨h1,h2⟩
theorem zx [Gi] {x y:Code} {p:Prop}[Decidable p](h1:p→wpA P D x Q S)(h2:¬p→wpA P D y Q S):ub P D x y Q S (.p (.bool (decide p))):=⟨fun h=>h1 (of_decide_eq_true h),fun h=>h2 (of_decide_eq_false h)⟩
theorem xD [Gi] {x y:Code} {p:Prop}[Decidable p](h1:¬p→wpA P D x Q S)(h2:p→wpA P D y Q S):ub P D x y Q S (.p (.bool (!decide p))):=⟨fun h=>h1 (by simpa using h),fun h=>h2 (by simpa using h)⟩
@[go_sem] theorem zdr [Gi] {y : Code} : zeB P D y Q .normal S = wpA P D y Q S := _root_.id rfl
@[go_sem] theorem zmU [Gi] {y : Code} {i : Nat} : zeB P D y Q (.exit i) S = Q (.exit i) S := _root_.id rfl
@[go_sem] theorem znX [Gi] {y : Code} : zeB P D y Q .ret S = Q .ret S := _root_.id rfl
@[go_sem] theorem zlk {id : Nat} : zgI id Q .normal S = Q .normal S := rfl
@[go_sem] theorem zm3 {id i : Nat} : zgI id Q (.exit i) S = if i = id then Q .normal S else Q (.exit i) S := rfl
@[go_sem] theorem zny {id : Nat} : zgI id Q .ret S = Q .ret S := rfl
end
def Yz {ι:Type}(inv:ι→Prop)(st:ι→St)(m:ι→Nat)(i:ι)(Q:Exit→St→Prop):Exit→St→Prop:=fun e S=>match e with|.normal=>∃j:{i:ι//inv i},LeR S (st j.1)∧m j.1<m i|e=>Q e S
@[go_sem] theorem zmx {ι : Type} {inv : ι → Prop} {st : ι → St} {m : ι → Nat} {i : ι} {Q : Exit → St → Prop} {S : St} {k : Nat} : Yz inv st m i Q (.exit k) S = Q (.exit k) S := rfl
@[go_sem] theorem zmY {ι : Type} {inv : ι → Prop} {st : ι → St} {m : ι → Nat} {i : ι} {Q : Exit → St → Prop} {S : St} : Yz inv st m i Q .ret S = Q .ret S := rfl
theorem zc {ι:Type} {inv:ι→Prop} {st:ι→St} {m:ι→Nat} {i:ι} {Q:Exit→St→Prop} {S:St}(j:ι)(h1:inv j)(h2:LeS S (st j))(h3:m j<m i):Yz inv st m i Q .normal S:=⟨⟨j,h1⟩,.inl h2,h3⟩
theorem xZ [Gi] {P:Program} {D:List Nat} {c:Code} {Q:Exit→St→Prop} {S:St} {ι:Type}(inv:ι→Prop)(st:ι→St)(m:ι→Nat)(i:ι)(hi:inv i)(h0:LeS S (st i))(h:∀i,inv i→wpA P D c (Yz inv st m i Q) (st i)):wpA P D (.loop c) Q S:=
 ⟨{i:ι//inv i},fun i=>st i.1,fun i=>m i.1,⟨⟨i,hi⟩,h0⟩,fun i=>h i.1 i.2⟩
theorem zq {α:Type}(f:α→PV)(l:List α)(n:Nat)(h:n<l.length):elemAt (l.map f) n=f l[n]:=by simp[elemAt,h]
theorem zi6(x:AV):leA x x:=.inl rfl
theorem zg {P:Program} {ts:List (Nat×Option TypeId)} {R:AV→List (Tok×List AV)→Prop} {S:St}(x:AV)(hp:S.pin=[])(hx:(zf P S ts).1∧leT ((zf P S ts).2.upd (AM.fil (fun _=>false) ftt)) x)(hR:R x []):uT P [] ts R S:=by
 have e:(fun t:Tok=>([]:List Tok).contains t)=fun _=>false:=by funext t;simp
 refine⟨[],x,⟨hp,by rw[hp];rfl⟩,by rw[e];exact hx,?_⟩
 have:∀l:List (Tok×List AV),VY [] l=[]:=fun l=>by simp[VY]
 rw[this];exact hR
@[go_sem] theorem zmM {P : Program} {pin : List Tok} {ts : List (Nat × Option TypeId)} {R : AV → List (Tok × List AV) → Prop} {S : St} : ve P pin ts R .ret S = uT P pin ts R S := _root_.id rfl
@[go_sem] theorem zkX {P : Program} {pin : List Tok} {ts : List (Nat × Option TypeId)} {R : AV → List (Tok × List AV) → Prop} {S : St} : ve P pin ts R .normal S = uT P pin ts R S := _root_.id rfl
theorem wrap64 [Gi] {x:Int}(h1: -9223372036854775808≤x)(h2:x≤9223372036854775807):IntKind.i64.wrap x=x:=by
 simp only[IntKind.wrap,IntKind.signed,IntKind.bits]
 simp
 omega
attribute [go_sem] qO zbj Option.map_some Option.map_none zdp UR okC eqC zjC zjR zjj zgQ zcL zbw zfI zh6 Y2 Vx zdo zi1 W8 xc uv Um Ul Ui St.itz itz y5 VU Qf Wp sbD JE St.fz fz fz1 Zt zdw un1 un2 unG St.ev St.get St.set St.kept look xL zH vr qu St.qH dOK yz zn3 Qc xQ
attribute [go_sem] zhn zcU zb4 zb8 vE Uj zbc ptrEq x0 Ub K3 zbq qv vC vH za6 WU bad
attribute [go_sem] ziX zhY UI uk zch UW unA zcX VS KC ko zcY jF jB yq zbE Vh Wc YT K8 vZ zaL sliceB YA zh2 zfm VL wS wS.sl Option.bind_some Option.bind_none
attribute [go_sem] Uv ZO WR zkI QK xO toP zig zcZ PV.cells PV.one PV.fits V9 Qb zix uh Vc JG yG Uy ja z5 zes W7 zj9 ziK yc sizedB zev
attribute [go_sem] bzC vf zeI zic uL VO zl9 zhg Yp jd yL xg Q0 ug QB Kj ZZ zeE AV.ren YW yZ inM yk okM Qq jr jo YP Kz uf zeb vI U9 kB xq
attribute [go_sem] St.fil AV.upd fil zD Zq ftt
theorem zb [Gi] {P:Program} {S:St} {f:FuncId} {args:List Operand} {dst:Option Nat} {K:St→Prop}(m:List (Tok×Tok)) {pin:List Tok} {as1:List AV} {rs:List (Tok×List AV)} {R:AV→List (Tok×List AV)→Prop}(hC:CR P f pin as1 rs R)
  (hm:okM (dst.getD S.n) m=true∧S.pin.all (jr (dst.getD S.n) m pin)=true∧dOK S dst) (ha:(ZZ S m args).1∧(ZZ S m args).2=as1) (hr:Qq S m m=rs)
  (hk:∀x rs',R x rs'→K ((uf S (dst.getD S.n) m pin rs').qH dst (x.ren fun u=>some (yk (dst.getD S.n) m u)))):JM P S f args dst K:=by
 subst hr
 obtain⟨ha,rfl⟩:=ha
 exact⟨m,pin,R,hm,ha,hC,hk⟩
theorem Vp [Gi] {P:Program} {S:St} {f:FuncId} {cs:List AV} {args:List Operand} {dst:Option Nat} {K:St→Prop}(m:List (Tok×Tok)) {pin:List Tok} {as1:List AV} {rs:List (Tok×List AV)} {R:AV→List (Tok×List AV)→Prop}(hC:CR P f pin as1 rs R)
  (hm:okM (dst.getD S.n) m=true∧S.pin.all (jr (dst.getD S.n) m pin)=true∧dOK S dst) (ha:(ZZ S m args).1∧(ZZ S m args).2++cs.map (zeE m)=as1) (hr:Qq S m m=rs)
  (hk:∀x rs',R x rs'→K ((uf S (dst.getD S.n) m pin rs').qH dst (x.ren fun u=>some (yk (dst.getD S.n) m u)))):zcF P S f cs args dst K:=by
 subst hr
 obtain⟨ha,rfl⟩:=ha
 exact⟨m,pin,R,hm,ha,hC,hk⟩
theorem zl {P:Program} {pin:List Tok} {ts:List (Nat×Option TypeId)} {R:AV→List (Tok×List AV)→Prop} {S:St}(kr:List Tok)(x:AV)(hp:S.pin=pin∧pin.all (fun t=>kr.contains t)=true)(hx:(zf P S ts).1∧leT ((zf P S ts).2.upd (AM.fil (fun t=>kr.contains t) ftt)) x)(hR:R x (VY kr (S.fil (fun t=>kr.contains t) ftt).rs)):uT P pin ts R S:=by
 obtain⟨rfl,hp⟩:=hp
 exact⟨kr,x,⟨rfl,hp⟩,hx,hR⟩
attribute [go_sem] VY List.getElem?_cons_zero
def St.ofR(rs:List (Tok×List AV)):St:={n:=0,nv:=0,vs:=[],ts:=[],rs:=rs}
theorem GS.Z1 [Gi] {g:Gh} {w:World} {rs:List (Tok×List AV)}(h:GS g w rs) {d:Nat} {m:List (Tok×Tok)}(ok:okM d m=true):GS (g.Z1 m) w (Qq (St.ofR rs) m m):=by
 refine⟨fun b u hk=>?_,fun b b' u hk hk'=>?_,fun b b' u hk hk'=>?_,fun b hb=>h.own b (fun e=>hb ?_),h.frb,fun b arr e=>⟨by show(g.K b).ren _=.prot;rw[(h.gl b arr e).1];rfl,(h.gl b arr e).2⟩⟩
 ·obtain⟨t,hk,hu⟩:=Kd.Qg.1 hk
  obtain⟨cs,hl,h0,arr,T,hb,hle,hc⟩:=h.roots b t hk
  refine⟨_,vY (S:=St.ofR rs) (Qz ok hu) hl,h0,arr,T,hb,by simpa using hle,fun j x hj=>?_⟩
  simp only[List.getElem?_map,Option.map_eq_some_iff]at hj
  obtain⟨y,hy,rfl⟩:=hj
  obtain⟨v,hv,h1,r⟩:=hc j y hy
  exact⟨v,hv,h1,zd.ren (Ren.Z1 g m) _ _ r⟩
 ·obtain⟨t,hk,hu⟩:=Kd.Qg.1 hk
  obtain⟨t',hk',hu'⟩:=Kd.Qg.1 hk'
  have e:=Qz ok hu
  rw[Qz ok hu']at e;injection e with e;subst e
  exact h.ur b b' _ hk hk'
 ·obtain⟨t,hk,hu⟩:=Kd.xP.1 hk
  obtain⟨t',hk',hu'⟩:=Kd.xP.1 hk'
  have e:=Qz ok hu
  rw[Qz ok hu']at e;injection e with e;subst e
  exact h.ut b b' _ hk hk'
 ·show(g.K b).ren _=.prot
  rw[e];rfl
theorem CR.ren [Gi] {P:Program} {f:FuncId} {pin:List Tok} {args:List AV} {rs:List (Tok×List AV)} {R R':AV→List (Tok×List AV)→Prop}(h:CR P f pin args rs R)(d:Nat)
  (hr:∀x rs',R x rs'→∃m,okM d m=true∧pin.all (fun t=>inM m t==some t)=true∧R' (x.ren (inM m)) (Qq (St.ofR rs') m m)):CR P f pin args rs R':=by
 intro w g vs h1 h2
 refine(h w g vs h1 h2).mono ?_
 rintro e w' ⟨v,x,rs',g',rfl,hR,hx,hG,hA⟩
 obtain⟨m,ok,hp,hR'⟩:=hr x rs' hR
 refine⟨v,_,_,g'.Z1 m,rfl,hR',zd.ren (Ren.Z1 g' m) _ _ hx,hG.Z1 ok,⟨fun b hb hk=>?_,hA.ext,hA.out,hA.mono,fun b t hk ht=>?_⟩⟩
 ·obtain⟨a1,a2,a3⟩:=hA.frame b hb hk
  exact⟨a1,a2,by show(g'.K b).ren _=.prot;rw[a3];rfl⟩
 ·have:=List.all_eq_true.1 hp t ht
  simp at this
  exact⟨Kd.Qg.2 ⟨t,(hA.pins b t hk ht).1,this⟩,(hA.pins b t hk ht).2⟩
attribute [go_sem] St.ofR leT leP
theorem z6 [Gi] {P:Program} {S:St} {dst:Option Nat} {x:Operand} {args:Array Operand} {argTypes:Array TypeId} {tt:TypeId} {pos:String} {after:Array Edge} {guard:Option (Nat×Bool)} {r:AV}(f:FuncId) {as1:List AV}
  (hC:CR P f [] as1 [] fun y rs=>rs=[]∧y=r) (hf:zev (S.ev x)=some f) (hb:((P.funcs[f]?).map (·.body.isSome))=some true∧((P.funcs[f]?).map (·.name))≠some "runtime.NumGoroutine")
  (ha:(ZZ S [] args.toList).1∧(ZZ S [] args.toList).2=as1):xp P S ⟨dst,.call ⟨.value x,args,argTypes⟩,tt,pos,after,guard⟩ r:=by
 unfold xp
 simp only[hf]
 obtain⟨h1,rfl⟩:=ha
 exact⟨hb,h1,hC⟩
theorem z7 [Gi] {P:Program} {S:St} {o:Oper} {c:Option Bool} {K:St→Prop}(x:AV)(hx:WY x=true)(hv:ui o=true)(hp:c≠some false→xp P S o x)(hk:dOK S o.dst∧K (S.qH o.dst (gv c x))):JL P S o c K:=
 ⟨x,⟨hx,hv,hp⟩,hk⟩
attribute [go_sem] gv vG bsD bsR zeD znz zgc ziO hdr List.isEmpty_cons List.isEmpty_nil ui Qd yQ jl zcz VT
def qG {α:Type}(n:Nat)(c:List α):List α:=(List.replicate n c).flatten
theorem qz {α:Type}(n:Nat)(c:List α):(qG n c).length=n*c.length:=by simp[qG]
end Go.AM
end
section
namespace Go.Proofs.YtjefahhmkcfiiaaGreat
open Go.AM
theorem mixed:Tryz.prog.follows .mixedOrders=true:=Tryz.checked.mixed
@[go_sem] theorem ty3 : ty Tryz.prog 3 = some ⟨.int .i64, 1, 8, some [.int .i64 0]⟩ := by kernel_rfl
@[go_sem] theorem ty4 : ty Tryz.prog 4 = some ⟨.bool, 1, 1, some [.bool false]⟩ := by kernel_rfl
@[go_sem] theorem ty5 : ty Tryz.prog 5 = some ⟨.int .u8, 1, 1, some [.int .u8 0]⟩ := by kernel_rfl
@[go_sem] theorem ty9 : ty Tryz.prog 9 = some ⟨.string, 1, 16, some [.str []]⟩ := by kernel_rfl
@[go_sem] theorem ty21 : ty Tryz.prog 21 = some ⟨.int .i32, 1, 4, some [.int .i32 0]⟩ := by kernel_rfl
@[go_sem] theorem ty22 : ty Tryz.prog 22 = some ⟨.slice 21, 1, 24, some [.opq (.slice none 0 0)]⟩ := by kernel_rfl
@[go_sem] theorem ty25 : ty Tryz.prog 25 = some ⟨.slice 157, 1, 24, some [.opq (.slice none 0 0)]⟩ := by kernel_rfl
@[go_sem] theorem ty27 : ty Tryz.prog 27 = some ⟨.pointer 107, 1, 8, some [.opq (.pointer none)]⟩ := by kernel_rfl
@[go_sem] theorem ty29 : ty Tryz.prog 29 = some ⟨.slice 22, 1, 24, some [.opq (.slice none 0 0)]⟩ := by kernel_rfl
@[go_sem] theorem ty31 : ty Tryz.prog 31 = some ⟨Tryz.t30.desc, 2, 32, some [.opq (.slice none 0 0), .int .i64 0]⟩ := by kernel_rfl
@[go_sem] theorem ty34 : ty Tryz.prog 34 = some ⟨Tryz.t33.desc, 2, 32, some [.opq (.slice none 0 0), .int .i64 0]⟩ := by kernel_rfl
@[go_sem] theorem ty55 : ty Tryz.prog 55 = some ⟨.pointer 135, 1, 8, some [.opq (.pointer none)]⟩ := by kernel_rfl
@[go_sem] theorem ty64 : ty Tryz.prog 64 = some ⟨Tryz.t63.desc, 3, 24, some [.int .i64 0, .int .i64 0, .bool false]⟩ := by kernel_rfl
@[go_sem] theorem ty97 : ty Tryz.prog 97 = some ⟨.slice 3, 1, 24, some [.opq (.slice none 0 0)]⟩ := by kernel_rfl
@[go_sem] theorem ty99 : ty Tryz.prog 99 = some ⟨.pointer 218, 1, 8, some [.opq (.pointer none)]⟩ := by kernel_rfl
@[go_sem] theorem ty101 : ty Tryz.prog 101 = some ⟨.pointer 232, 1, 8, some [.opq (.pointer none)]⟩ := by kernel_rfl
@[go_sem] theorem ty103 : ty Tryz.prog 103 = some ⟨.map 114 21, 1, 8, some [.opq (.map none)]⟩ := by kernel_rfl
@[go_sem] theorem ty104 : ty Tryz.prog 104 = some ⟨.map 21 4, 1, 8, some [.opq (.map none)]⟩ := by kernel_rfl
@[go_sem] theorem ty105 : ty Tryz.prog 105 = some ⟨.pointer 182, 1, 8, some [.opq (.pointer none)]⟩ := by kernel_rfl
@[go_sem] theorem ty107 : ty Tryz.prog 107 = some ⟨Tryz.t106.desc, 7, 56, some [.opq (.pointer none), .opq (.pointer none), .opq (.pointer none), .opq (.pointer none), .opq (.pointer none), .opq (.map none), .opq (.map none)]⟩ := by kernel_rfl
@[go_sem] theorem ty108 : ty Tryz.prog 108 = some ⟨.slice 116, 1, 24, some [.opq (.slice none 0 0)]⟩ := by kernel_rfl
@[go_sem] theorem ty109 : ty Tryz.prog 109 = some ⟨.slice 112, 1, 24, some [.opq (.slice none 0 0)]⟩ := by kernel_rfl
@[go_sem] theorem ty112 : ty Tryz.prog 112 = some ⟨Tryz.t111.desc, 4, 32, some [.int .i64 0, .int .i64 0, .int .i64 0, .int .i64 0]⟩ := by kernel_rfl
@[go_sem] theorem ty114 : ty Tryz.prog 114 = some ⟨Tryz.t113.desc, 2, 8, some [.int .i32 0, .int .i32 0]⟩ := by kernel_rfl
@[go_sem] theorem ty116 : ty Tryz.prog 116 = some ⟨Tryz.t115.desc, 4, 24, some [.int .i64 0, .int .i64 0, .int .i32 0, .int .i32 0]⟩ := by kernel_rfl
@[go_sem] theorem ty129 : ty Tryz.prog 129 = some ⟨.pointer 205, 1, 8, some [.opq (.pointer none)]⟩ := by kernel_rfl
@[go_sem] theorem ty132 : ty Tryz.prog 132 = some ⟨Tryz.t131.desc, 2, 32, some [.opq (.slice none 0 0), .int .i64 0]⟩ := by kernel_rfl
@[go_sem] theorem ty135 : ty Tryz.prog 135 = some ⟨Tryz.t134.desc, 4, 48, some [.opq (.pointer none), .opq (.pointer none), .opq (.slice none 0 0), .int .i64 0]⟩ := by kernel_rfl
@[go_sem] theorem ty157 : ty Tryz.prog 157 = some ⟨Tryz.t156.desc, 5, 40, some [.int .i64 0, .int .i64 0, .int .i64 0, .int .i64 0, .int .i64 0]⟩ := by kernel_rfl
@[go_sem] theorem ty158 : ty Tryz.prog 158 = some ⟨.slice 160, 1, 24, some [.opq (.slice none 0 0)]⟩ := by kernel_rfl
@[go_sem] theorem ty160 : ty Tryz.prog 160 = some ⟨Tryz.t159.desc, 3, 24, some [.int .i64 0, .int .i64 0, .int .i64 0]⟩ := by kernel_rfl
@[go_sem] theorem ty162 : ty Tryz.prog 162 = some ⟨.array 4 3, 4, 32, some [.int .i64 0, .int .i64 0, .int .i64 0, .int .i64 0]⟩ := by kernel_rfl
@[go_sem] theorem ty163 : ty Tryz.prog 163 = some ⟨.array 4 109, 4, 96, some [.opq (.slice none 0 0), .opq (.slice none 0 0), .opq (.slice none 0 0), .opq (.slice none 0 0)]⟩ := by kernel_rfl
@[go_sem] theorem ty164 : ty Tryz.prog 164 = some ⟨.slice 174, 1, 24, some [.opq (.slice none 0 0)]⟩ := by kernel_rfl
@[go_sem] theorem ty166 : ty Tryz.prog 166 = some ⟨.slice 109, 1, 24, some [.opq (.slice none 0 0)]⟩ := by kernel_rfl
@[go_sem] theorem ty167 : ty Tryz.prog 167 = some ⟨.array 4 4, 4, 4, some [.bool false, .bool false, .bool false, .bool false]⟩ := by kernel_rfl
@[go_sem] theorem ty172 : ty Tryz.prog 172 = some ⟨Tryz.t171.desc, 4, 4, some [.bool false, .bool false, .bool false, .bool false]⟩ := by kernel_rfl
@[go_sem] theorem ty174 : ty Tryz.prog 174 = some ⟨Tryz.t173.desc, 6, 24, some [.int .i64 0, .int .i64 0, .bool false, .bool false, .bool false, .bool false]⟩ := by kernel_rfl
@[go_sem] theorem ty180 : ty Tryz.prog 180 = some ⟨.slice 191, 1, 24, some [.opq (.slice none 0 0)]⟩ := by kernel_rfl
@[go_sem] theorem ty182 : ty Tryz.prog 182 = some ⟨Tryz.t181.desc, 3, 56, some [.int .i64 0, .opq (.slice none 0 0), .opq (.slice none 0 0)]⟩ := by kernel_rfl
@[go_sem] theorem ty184 : ty Tryz.prog 184 = some ⟨.map 191 3, 1, 8, some [.opq (.map none)]⟩ := by kernel_rfl
@[go_sem] theorem ty185 : ty Tryz.prog 185 = some ⟨.map 114 3, 1, 8, some [.opq (.map none)]⟩ := by kernel_rfl
@[go_sem] theorem ty187 : ty Tryz.prog 187 = some ⟨Tryz.t186.desc, 3, 24, some [.opq (.pointer none), .opq (.map none), .opq (.map none)]⟩ := by kernel_rfl
@[go_sem] theorem ty191 : ty Tryz.prog 191 = some ⟨.array 128 114, 256, 1024, some (qG 128 [.int .i32 0, .int .i32 0])⟩ := by kernel_rfl
@[go_sem] theorem ty205 : ty Tryz.prog 205 = some ⟨Tryz.t204.desc, 3, 40, some [.opq (.slice none 0 0), .int .i64 0, .int .i64 0]⟩ := by kernel_rfl
@[go_sem] theorem ty216 : ty Tryz.prog 216 = some ⟨.slice 225, 1, 24, some [.opq (.slice none 0 0)]⟩ := by kernel_rfl
@[go_sem] theorem ty218 : ty Tryz.prog 218 = some ⟨Tryz.t217.desc, 3, 56, some [.int .i64 0, .opq (.slice none 0 0), .opq (.slice none 0 0)]⟩ := by kernel_rfl
@[go_sem] theorem ty220 : ty Tryz.prog 220 = some ⟨.map 225 3, 1, 8, some [.opq (.map none)]⟩ := by kernel_rfl
@[go_sem] theorem ty221 : ty Tryz.prog 221 = some ⟨.map 3 3, 1, 8, some [.opq (.map none)]⟩ := by kernel_rfl
@[go_sem] theorem ty223 : ty Tryz.prog 223 = some ⟨Tryz.t222.desc, 3, 24, some [.opq (.pointer none), .opq (.map none), .opq (.map none)]⟩ := by kernel_rfl
@[go_sem] theorem ty225 : ty Tryz.prog 225 = some ⟨.array 128 3, 128, 1024, some (qG 128 [.int .i64 0])⟩ := by kernel_rfl
@[go_sem] theorem ty227 : ty Tryz.prog 227 = some ⟨.map 3 4, 1, 8, some [.opq (.map none)]⟩ := by kernel_rfl
@[go_sem] theorem ty230 : ty Tryz.prog 230 = some ⟨.slice 241, 1, 24, some [.opq (.slice none 0 0)]⟩ := by kernel_rfl
@[go_sem] theorem ty232 : ty Tryz.prog 232 = some ⟨Tryz.t231.desc, 3, 56, some [.int .i64 0, .opq (.slice none 0 0), .opq (.slice none 0 0)]⟩ := by kernel_rfl
@[go_sem] theorem ty234 : ty Tryz.prog 234 = some ⟨.map 241 3, 1, 8, some [.opq (.map none)]⟩ := by kernel_rfl
@[go_sem] theorem ty235 : ty Tryz.prog 235 = some ⟨.map 172 3, 1, 8, some [.opq (.map none)]⟩ := by kernel_rfl
@[go_sem] theorem ty237 : ty Tryz.prog 237 = some ⟨Tryz.t236.desc, 3, 24, some [.opq (.pointer none), .opq (.map none), .opq (.map none)]⟩ := by kernel_rfl
@[go_sem] theorem ty241 : ty Tryz.prog 241 = some ⟨.array 128 172, 512, 512, some (qG 128 [.bool false, .bool false, .bool false, .bool false])⟩ := by kernel_rfl
@[go_sem] theorem ty245 : ty Tryz.prog 245 = some ⟨.int .u64, 1, 8, some [.int .u64 0]⟩ := by kernel_rfl
@[go_sem] theorem ty247 : ty Tryz.prog 247 = some ⟨Tryz.t246.desc, 5, 40, some [.bool false, .int .i64 0, .int .i64 0, .int .i64 0, .bool false]⟩ := by kernel_rfl
@[go_sem] theorem ty252 : ty Tryz.prog 252 = some ⟨Tryz.t251.desc, 2, 32, some [.opq (.pointer none), .opq (.slice none 0 0)]⟩ := by kernel_rfl
@[go_sem] theorem ty257 : ty Tryz.prog 257 = some ⟨.slice 259, 1, 24, some [.opq (.slice none 0 0)]⟩ := by kernel_rfl
@[go_sem] theorem ty259 : ty Tryz.prog 259 = some ⟨.array 2 3, 2, 16, some [.int .i64 0, .int .i64 0]⟩ := by kernel_rfl
@[go_sem] theorem ty273 : ty Tryz.prog 273 = some ⟨.int .u64, 1, 8, some [.int .u64 0]⟩ := by kernel_rfl
@[go_sem] theorem ty290 : ty Tryz.prog 290 = some ⟨.array 3 21, 3, 12, some [.int .i32 0, .int .i32 0, .int .i32 0]⟩ := by kernel_rfl
@[go_sem] theorem zoD : Jz Tryz.prog 21 = some (.int .i32 0) := by kernel_rfl
@[go_sem] theorem zp4 : Jz Tryz.prog 4 = some (.bool false) := by kernel_rfl
@[go_sem] theorem zp3 : Jz Tryz.prog 3 = some (.int .i64 0) := by kernel_rfl
@[go_sem] theorem ck64 : ke Tryz.prog 64 = some [.i .i64, .i .i64, .b] := by kernel_rfl
@[go_sem] theorem ck114 : ke Tryz.prog 114 = some [.i .i32, .i .i32] := by kernel_rfl
@[go_sem] theorem ck167 : ke Tryz.prog 167 = some [.b, .b, .b, .b] := by kernel_rfl
@[go_sem] theorem kk3 : ZT Tryz.prog 3 = some (false, [.i .i64]) := by kernel_rfl
@[go_sem] theorem zoC : ZT Tryz.prog 21 = some (false, [.i .i32]) := by kernel_rfl
@[go_sem] theorem zoz : ZT Tryz.prog 114 = some (true, [.i .i32, .i .i32]) := by kernel_rfl
@[go_sem] theorem zoy : ZT Tryz.prog 172 = some (true, [.b, .b, .b, .b]) := by kernel_rfl
@[go_sem] theorem zoA : ZT Tryz.prog 191 = some (true, qG 128 [.i .i32, .i .i32]) := Wt ty191 (by kernel_rfl) (by kernel_rfl) ty114 (by decide)
@[go_sem] theorem zox : ZT Tryz.prog 225 = some (true, qG 128 [.i .i64]) := Wt ty225 (by kernel_rfl) (by kernel_rfl) ty3 (by decide)
@[go_sem] theorem zow : ZT Tryz.prog 241 = some (true, qG 128 [.b, .b, .b, .b]) := Wt ty241 (by kernel_rfl) (by kernel_rfl) ty172 (by decide)
attribute [go_sem] Tryz.t7 Tryz.t13 Tryz.t18 Tryz.t30 Tryz.t33 Tryz.t36 Tryz.t63 Tryz.t77 Tryz.t79 Tryz.t106 Tryz.t111 Tryz.t113 Tryz.t115 Tryz.t131 Tryz.t134 Tryz.t140 Tryz.t156 Tryz.t159 Tryz.t171 Tryz.t173 Tryz.t181 Tryz.t186 Tryz.t204 Tryz.t217 Tryz.t222 Tryz.t231 Tryz.t236 Tryz.t246 Tryz.t251 Tryz.t298 Tryz.t301 Tryz.t309
end Go.Proofs.YtjefahhmkcfiiaaGreat
end
