/- A part of this seat's proofs, by an abstract machine. Conditions: each law's. -/
import Derived.Test.YtfjdbbpimklecaaGreatDoorT15
import Derived.KernelRfl
import Derived.Test.YtfjdbbpimklecaaGreatDoorChecked
import Derived.Eval
namespace Go.AM
section
def zoj [Gi](P:Program)(ops:Array Oper)(rest:List Oper)(K:St→Prop):St→Prop:=fun S=>Zu P ops rest S K
def zbK [Gi](P:Program)(D:List Nat)(y:Code)(Q:Exit→St→Prop):Exit→St→Prop:=fun e S=>match e with|.normal=>wpA P D y Q S|e=>Q e S
def zhn(id:Nat)(Q:Exit→St→Prop):Exit→St→Prop:=fun e S=>match e with|.exit i=>if i=id then Q .normal S else Q (.exit i) S|e=>Q e S
def xv [Gi](P:Program)(S:St)(o:Oper)(K:St→Prop):Option (Option Bool)→Prop
 |some c=>jP P S o c K
 |none=>False
def Kz [Gi](P:Program)(S:St)(o:Oper)(K:St→Prop)(c:Option Bool):Option PR→Prop
 |some r=>match c with
  |none=>(r.1∧dOK S o.dst)∧K (S.qE o.dst r.2)
  |some c=>((c=true→r.1)∧dOK S o.dst)∧K (S.qE o.dst (.gd c r.2))
 |none=>match c with
  |none=>KC P S o K
  |some c=>(c=true→KC P S o K)∧(c=false→dOK S o.dst∧K (S.qE o.dst (.gd false .zY)))
def X8 [Gi](P:Program)(S:St)(o:Oper)(K:St→Prop):Option (Prop×St)→Prop
 |some r=>r.1∧K r.2
 |none=>Kw P S o K
def kJ [Gi](P:Program)(D:List Nat)(x y:Code)(Q:Exit→St→Prop)(S:St):AV→Prop
 |.p (.bool b)=>(b=true→wpA P D x Q S)∧(b=false→wpA P D y Q S)
 |_=>False
section
variable {P:Program} {D:List Nat} {ops:Array Oper} {S:St} {K:St→Prop} {Q:Exit→St→Prop}
@[go_sem] theorem zpK [Gi] : Zu P ops [] S K = K S := _root_.id rfl
@[go_sem] theorem zpr [Gi] {o : Oper} {rest : List Oper} : Zu P ops (o :: rest) S K = xv P S o (zoj P ops rest K) (qj ops S o) := by
 simp only[Zu];unfold xv;split<;>simp_all;rfl
@[go_sem] theorem zqH [Gi] {rest : List Oper} : zoj P ops rest K S = Zu P ops rest S K := _root_.id rfl
@[go_sem] theorem znb [Gi] {o : Oper} {c : Option Bool} : xv P S o K (some c) = Kz P S o K c (Zb P S o) := by
 unfold xv jP Kz;rfl
@[go_sem] theorem zn7 [Gi] {o : Oper} {c : Prop} {x : AV} : Kz P S o K none (some (c, x)) = ((c ∧ dOK S o.dst) ∧ K (S.qE o.dst x)) := rfl
@[go_sem] theorem zqu [Gi] {o : Oper} {b : Bool} {c : Prop} {x : AV} : Kz P S o K (some b) (some (c, x)) = (((b = true → c) ∧ dOK S o.dst) ∧ K (S.qE o.dst (.gd b x))) := rfl
@[go_sem] theorem zpz [Gi] {o : Oper} : Kz P S o K none none = X8 P S o K (zdR P S o) := by
 unfold Kz KC X8;rfl
@[go_sem] theorem zm8 [Gi] {o : Oper} {b : Bool} : Kz P S o K (some b) none = ((b = true → X8 P S o K (zdR P S o)) ∧ (b = false → dOK S o.dst ∧ K (S.qE o.dst (.gd false .zY)))) := by
 unfold Kz KC X8;rfl
@[go_sem] theorem znB [Gi] {o : Oper} {c : Prop} {S' : St} : X8 P S o K (some (c, S')) = (c ∧ K S') := rfl
@[go_sem] theorem zoz [Gi] {o : Oper} : X8 P S o K none = Kw P S o K := rfl
@[go_sem] theorem zqh [Gi] : wpA P D .skip Q S = Q .normal S := _root_.id rfl
@[go_sem] theorem znR [Gi] {id : Nat} {l : List Oper} : wpA P D (.region id l.toArray false) Q S = Zu P l.toArray l { S with ts := [] } (Q .normal) := _root_.id rfl
def Yg [Gi](P:Program)(l:List Oper)(K:St→Prop)(S:St):Bool→Prop
 |true=>ye P l.toArray l (yN P l S) K
 |false=>Zu P l.toArray l S K
def zax [Gi](P:Program)(l:List Oper)(K:St→Prop)(S:St):Bool→Bool→Prop
 |true,true=>Yg P (l.map Q0) K S true
 |true,false=>VN P l.toArray S K
 |false,c=>Yg P l K S c
def zcq [Gi](P:Program)(l:List Oper)(K:St→Prop)(S:St):Bool→Bool→Bool→Prop
 |true,_,_=>zgl P l.toArray K S
 |false,b,c=>zax P l K S b c
@[go_sem] theorem zng [Gi] {id : Nat} {l : List Oper} : wpA P D (.region id l.toArray true) Q S = zcq P l (Q .normal) { S with ts := [] } (D.contains (id + 200000)) (D.contains (id + 100000)) (D.contains id) := by
 unfold zcq zax Yg
 simp only[wpA,Bool.true_and]
 have e:YX P l.toArray {S with ts:=[]} (Q .normal)=ye P (l.map Q0).toArray (l.map Q0) (yN P (l.map Q0) {S with ts:=[]}) (Q .normal):=by
  unfold YX strip
  simp only[List.map_toArray]
 cases D.contains (id+200000)<;>cases D.contains (id+100000)<;>cases D.contains id<;>first|rfl|exact e
@[go_sem] theorem znx [Gi] {l : List Oper} {K : St → Prop} {b c : Bool} : zcq P l K S false b c = zax P l K S b c := _root_.id rfl
theorem QL [Gi] {l:List Oper} {K:St→Prop} {b c:Bool}(t:OT)(h1:(Region.noSelect l.toArray&&okT l.toArray l.toArray.size (Array.replicate l.toArray.size false) t)=true)(h2:kg P l.toArray K t S):zcq P l K S true b c:=⟨t,K,h1,h2,fun _ h=>.inl h⟩
theorem zfs [Gi] {l:List Oper} {K:St→Prop} {b c:Bool}(t:OT)(S1:St)(h1:(Region.noSelect l.toArray&&okT l.toArray l.toArray.size (Array.replicate l.toArray.size false) t)=true)(h2:kg P l.toArray (fun S'=>LeS S' S1) t S)(h3:K S1):zcq P l K S true b c:=⟨t,_,h1,h2,fun _ h=>.inr ⟨S1,.inl h,h3⟩⟩
def stepT [Gi](P:Program)(ops:Array Oper)(S:St)(K:St→Prop):Option Oper→Prop
 |some o=>J1 (Zb P S o) (YZ o)∧xv P S o K (qj ops S o)
 |none=>False
def zjR [Gi](P:Program)(ops:Array Oper)(K:St→Prop)(t:OT):St→Prop:=fun S=>kg P ops K t S
@[go_sem] theorem zpv [Gi] {ops : Array Oper} {K : St → Prop} {t : OT} : zjR P ops K t S = kg P ops K t S := _root_.id rfl
@[go_sem] theorem zpW [Gi] {ops : Array Oper} {K : St → Prop} {i c : Nat} {t : OT} : kg P ops K (.now i c t) S = zdE P S c (zjR P ops K t) ops[i]? := by simp only [kg]; rfl
@[go_sem] theorem zpp {K : St → Prop} {c : Nat} {o : Oper} : zdE P S c K (some o) = zhi P S o c K (Zb P S o) := rfl
@[go_sem] theorem zpd {K : St → Prop} {c : Nat} {o : Oper} {p : Prop} {x : AV} : zhi P S o c K (some (p, x)) = ((p ∧ dOK S o.dst) ∧ zfO c (wV S o x) (wT o || KN x) ∧ K (S.qE o.dst x)) := rfl
@[go_sem] theorem zrc {a b : Bool} : zfO 0 a b = True := rfl
@[go_sem] theorem zq5 {a b : Bool} : zfO 1 a b = ((a || b) = true) := rfl
@[go_sem] theorem zqY {a b : Bool} : zfO 2 a b = (a = true) := rfl
@[go_sem] theorem zqa [Gi] {ops : Array Oper} {K : St → Prop} : kg P ops K (.mk []) S = K S := by simp only [kg]
@[go_sem] theorem zpf [Gi] {ops : Array Oper} {K : St → Prop} {x : Nat × OT} {l : List (Nat × OT)} : kg P ops K (.mk (x :: l)) S = yJ P ops K (x :: l) S := by simp only [kg]
@[go_sem] theorem zpw [Gi] {ops : Array Oper} {K : St → Prop} : yJ P ops K [] S = True := by simp only [yJ]
@[go_sem] theorem znI [Gi] {ops : Array Oper} {K : St → Prop} {i : Nat} {t : OT} {l : List (Nat × OT)} : yJ P ops K ((i, t) :: l) S = (stepT P ops S (zjR P ops K t) ops[i]? ∧ yJ P ops K l S) := by
 simp only[yJ]
 cases ops[i]? with
 |none=>rfl
 |some o=>simp only[stepT,xv];cases qj ops S o<;>rfl
@[go_sem] theorem zn9 [Gi] {ops : Array Oper} {K : St → Prop} {o : Oper} : stepT P ops S K (some o) = (J1 (Zb P S o) (YZ o) ∧ xv P S o K (qj ops S o)) := rfl
@[go_sem] theorem zn5 {o : Option PR} : J1 o false = True := rfl
@[go_sem] theorem znU [Gi] {l : List Oper} : zax P l K S true false = VN P l.toArray S K := _root_.id rfl
@[go_sem] theorem zne [Gi] {l : List Oper} : zax P l K S true true = Yg P (l.map Q0) K S true := _root_.id rfl
attribute [go_sem] Q0
@[go_sem] theorem zm9 [Gi] {l : List Oper} {c : Bool} : zax P l K S false c = Yg P l K S c := _root_.id rfl
def ziY(P:Program)(t:Tok)(ov:Nat)(rest:List Oper)(K:St→Prop):Option (Prop×St)→Prop
 |some r=>r.1∧yx P t ov rest r.2 K
 |none=>False
def zaI(P:Program)(t:Tok)(ov:Nat)(S:St)(o:Oper)(rest:List Oper)(K:St→Prop):Option PR→Prop
 |some r=>(r.1∧(Ul o || KN r.2)=true∧dOK S o.dst)∧opsL P t ov rest (S.qE o.dst r.2) K
 |none=>False
def zgf(P:Program)(t:Tok)(ov:Nat)(S:St)(o:Oper)(rest:List Oper)(K:St→Prop):Bool→Prop
 |true=>zaI P t ov S o rest K (Zb P (Vs t S) o)
 |false=>yx P t ov (o::rest) S K
@[go_sem] theorem zqf {t : Tok} {ov : Nat} : opsL P t ov [] S K = K S := rfl
@[go_sem] theorem zpn {t : Tok} {ov : Nat} {o : Oper} {rest : List Oper} : opsL P t ov (o :: rest) S K = zgf P t ov S o rest K (ZZ o) := by
 unfold zgf zaI
 simp only[opsL]
 cases ZZ o
 ·rfl
 ·simp only[if_true]
  cases Zb P (Vs t S) o<;>rfl
@[go_sem] theorem zpo {t : Tok} {ov : Nat} : yx P t ov [] S K = K S := rfl
@[go_sem] theorem zoO {t : Tok} {ov : Nat} {o : Oper} {rest : List Oper} : yx P t ov (o :: rest) S K = ziY P t ov rest K (zcm P t ov S o) := by
 unfold ziY
 simp only[yx]
 cases zcm P t ov S o<;>rfl
@[go_sem] theorem zo1 {t : Tok} {ov : Nat} {o : Oper} {rest : List Oper} : zgf P t ov S o rest K true = zaI P t ov S o rest K (Zb P (Vs t S) o) := rfl
@[go_sem] theorem znm {t : Tok} {ov : Nat} {o : Oper} {rest : List Oper} : zgf P t ov S o rest K false = yx P t ov (o :: rest) S K := rfl
@[go_sem] theorem zns {t : Tok} {ov : Nat} {o : Oper} {rest : List Oper} {r : PR} : zaI P t ov S o rest K (some r) = ((r.1 ∧ (Ul o || KN r.2) = true ∧ dOK S o.dst) ∧ opsL P t ov rest (S.qE o.dst r.2) K) := rfl
@[go_sem] theorem zop {t : Tok} {ov : Nat} {rest : List Oper} {r : Prop × St} : ziY P t ov rest K (some r) = (r.1 ∧ yx P t ov rest r.2 K) := rfl
attribute [go_sem] wV JK YZ wT
attribute [go_sem] VP Ul KN zcQ zkG Vs zcm VN
@[go_sem] theorem zoL [Gi] {l : List Oper} : Yg P l K S true = ye P l.toArray l (yN P l S) K := _root_.id rfl
@[go_sem] theorem znl [Gi] {l : List Oper} : Yg P l K S false = Zu P l.toArray l S K := _root_.id rfl
def zk9 [Gi](P:Program)(ops:Array Oper)(rest:List Oper)(K:St→Prop):St→Prop:=fun S=>ye P ops rest S K
@[go_sem] theorem zo6 [Gi] {rest : List Oper} : zk9 P ops rest K S = ye P ops rest S K := _root_.id rfl
def Ys [Gi](P:Program)(S:St)(o:Oper)(c:Option Bool)(K:St→Prop):Prop:=∃x,(WI x=true∧xf o=true∧(c≠some false→xB P S o x))∧dOK S o.dst∧K (S.qE o.dst (gv c x))
def Xu [Gi](P:Program)(S:St)(o:Oper)(K:St→Prop)(c:Option Bool):Option PR→Prop
 |some r=>(c≠some false→r.1)∧dOK S o.dst∧K (S.qE o.dst (gv c r.2))
 |none=>Ys P S o c K
def U0 [Gi](P:Program)(S:St)(o:Oper)(K:St→Prop)(c:Option Bool):Option PR→Prop
 |some r=>(c≠some false→r.1)∧dOK S o.dst∧K (S.qE o.dst (gv c r.2))
 |none=>Xu P S o K c (bsD P S o)
def zdk [Gi](P:Program)(S:St)(o:Oper)(K:St→Prop)(c:Option Bool):Option (Nat×List AV)→Prop
 |some (d,cs)=>(c=none∧S.pin.contains [d]=false∧zn S.rs [d]=some cs)∧dOK S o.dst∧K (S.qE o.dst (.lp [d] 0))
 |none=>U0 P S o K c (vZ P S o)
def Zv [Gi](P:Program)(S:St)(o:Oper)(K:St→Prop):Option (Option Bool)→Prop
 |some c=>zdk P S o K c (Q1 P o)
 |none=>False
def zf4 [Gi](P:Program)(ops:Array Oper)(S:St)(o:Oper)(rest:List Oper)(K:St→Prop):Bool→Prop
 |true=>Zv P S o (zk9 P ops rest K) (qj ops S o)
 |false=>Zu P ops (o::rest) S K
@[go_sem] theorem zqz [Gi] : ye P ops [] S K = K S := _root_.id rfl
@[go_sem] theorem zpi [Gi] {o : Oper} {rest : List Oper} : ye P ops (o :: rest) S K = zf4 P ops S o rest K (hdr o rest) := by
 unfold ye zf4
 cases hdr o rest
 ·simp
 ·simp only[if_true]
  unfold Zv
  cases qj ops S o with
  |none=>rfl
  |some c=>
   simp only[]
   unfold zdk Wi
   cases hz:Q1 P o with
   |some dc=>
    obtain⟨d,cs⟩:=dc
    simp only[]
    refine propext ⟨?_,?_⟩
    ·rintro⟨x,⟨rfl,rfl,h1,h2⟩,h3,h4⟩;exact⟨⟨rfl,h1,h2⟩,h3,h4⟩
    ·rintro⟨⟨rfl,h1,h2⟩,h3,h4⟩;exact⟨_,⟨rfl,rfl,h1,h2⟩,h3,h4⟩
   |none=>
    simp only[]
    unfold U0
    cases hp:vZ P S o with
    |none=>
     simp only[]
     unfold Xu
     cases hb:bsD P S o with
     |none=>simp only[];unfold Ys;rfl
     |some r=>
      simp only[]
      refine propext ⟨?_,?_⟩
      ·rintro⟨x,⟨rfl,h1⟩,h2,h3⟩;exact⟨h1,h2,h3⟩
      ·rintro⟨h1,h2,h3⟩;exact⟨_,⟨rfl,h1⟩,h2,h3⟩
    |some r=>
     simp only[]
     refine propext ⟨?_,?_⟩
     ·rintro⟨x,⟨rfl,h1⟩,h2,h3⟩;exact⟨h1,h2,h3⟩
     ·rintro⟨h1,h2,h3⟩;exact⟨_,⟨rfl,h1⟩,h2,h3⟩
@[go_sem] theorem zo2 [Gi] {o : Oper} {rest : List Oper} : zf4 P ops S o rest K true = Zv P S o (zk9 P ops rest K) (qj ops S o) := rfl
@[go_sem] theorem znj [Gi] {o : Oper} {rest : List Oper} : zf4 P ops S o rest K false = Zu P ops (o :: rest) S K := rfl
@[go_sem] theorem zn0 [Gi] {o : Oper} {c : Option Bool} : Zv P S o K (some c) = zdk P S o K c (Q1 P o) := rfl
@[go_sem] theorem znE [Gi] {o : Oper} {c : Option Bool} : zdk P S o K c none = U0 P S o K c (vZ P S o) := rfl
@[go_sem] theorem znP [Gi] {o : Oper} {c : Option Bool} {d : Nat} {cs : List AV} : zdk P S o K c (some (d, cs)) = ((c = none ∧ S.pin.contains [d] = false ∧ zn S.rs [d] = some cs) ∧ dOK S o.dst ∧ K (S.qE o.dst (.lp [d] 0))) := rfl
@[go_sem] theorem zoH [Gi] {o : Oper} {p : Prop} {x : AV} : U0 P S o K none (some (p, x)) = (p ∧ dOK S o.dst ∧ K (S.qE o.dst x)) := by simp [U0, gv]
@[go_sem] theorem zoJ [Gi] {o : Oper} {b : Bool} {p : Prop} {x : AV} : U0 P S o K (some b) (some (p, x)) = ((b = true → p) ∧ dOK S o.dst ∧ K (S.qE o.dst (.gd b x))) := by simp [U0, gv]
@[go_sem] theorem zoh [Gi] {o : Oper} {c : Option Bool} : U0 P S o K c none = Xu P S o K c (bsD P S o) := rfl
@[go_sem] theorem zok [Gi] {o : Oper} {c : Option Bool} : Xu P S o K c none = Ys P S o c K := rfl
@[go_sem] theorem zoN [Gi] {o : Oper} {p : Prop} {x : AV} : Xu P S o K none (some (p, x)) = (p ∧ dOK S o.dst ∧ K (S.qE o.dst x)) := by simp [Xu, gv]
@[go_sem] theorem za7 [Gi] {x y : Code} : wpA P D (.seq x y) Q S = wpA P D x (zbK P D y Q) S := _root_.id rfl
@[go_sem] theorem zqc [Gi] {c : Operand} {x y : Code} : wpA P D (.cond c x y) Q S = kJ P D x y Q S (S.ev c) := _root_.id rfl
@[go_sem] theorem zpA [Gi] {id : Nat} {c : Code} : wpA P D (.block id c) Q S = wpA P D c (zhn id Q) S := _root_.id rfl
@[go_sem] theorem zpJ [Gi] {id : Nat} : wpA P D (.exit id) Q S = Q (.exit id) S := _root_.id rfl
@[go_sem] theorem zqM [Gi] : wpA P D .ret Q S = Q .ret S := _root_.id rfl
@[go_sem] theorem zoW [Gi] {x y : Code} : kJ P D x y Q S (.p (.bool true)) = wpA P D x Q S := by simp [kJ]
@[go_sem] theorem znq [Gi] {x y : Code} : kJ P D x y Q S (.p (.bool false)) = wpA P D y Q S := by simp [kJ]
theorem zN [Gi] {x y:Code} {b:Bool}(h1:b=true→wpA P D x Q S)(h2:b=false→wpA P D y Q S):kJ P D x y Q S (.p (.bool b)):=⟨h1,h2⟩
theorem zh [Gi] {x y:Code} {p:Prop}[Decidable p](h1:p→wpA P D x Q S)(h2:¬p→wpA P D y Q S):kJ P D x y Q S (.p (.bool (decide p))):=⟨fun h=>h1 (of_decide_eq_true h),fun h=>h2 (of_decide_eq_false h)⟩
theorem jy [Gi] {x y:Code} {p:Prop}[Decidable p](h1:¬p→wpA P D x Q S)(h2:p→wpA P D y Q S):kJ P D x y Q S (.p (.bool (!decide p))):=⟨fun h=>h1 (by simpa using h),fun h=>h2 (by simpa using h)⟩
@[go_sem] theorem zcc [Gi] {y : Code} : zbK P D y Q .normal S = wpA P D y Q S := _root_.id rfl
@[go_sem] theorem zo7 [Gi] {y : Code} {i : Nat} : zbK P D y Q (.exit i) S = Q (.exit i) S := _root_.id rfl
@[go_sem] theorem zqd [Gi] {y : Code} : zbK P D y Q .ret S = Q .ret S := _root_.id rfl
@[go_sem] theorem znp {id : Nat} : zhn id Q .normal S = Q .normal S := rfl
@[go_sem] theorem zpm {id i : Nat} : zhn id Q (.exit i) S = if i = id then Q .normal S else Q (.exit i) S := rfl
@[go_sem] theorem zql {id : Nat} : zhn id Q .ret S = Q .ret S := rfl
end
def Kf {ι:Type}(inv:ι→Prop)(st:ι→St)(m:ι→Nat)(i:ι)(Q:Exit→St→Prop):Exit→St→Prop:=fun e S=>match e with|.normal=>∃j:{i:ι//inv i},LeR S (st j.1)∧m j.1<m i|e=>Q e S
@[go_sem] theorem znM {ι : Type} {inv : ι → Prop} {st : ι → St} {m : ι → Nat} {i : ι} {Q : Exit → St → Prop} {S : St} {k : Nat} : Kf inv st m i Q (.exit k) S = Q (.exit k) S := rfl
@[go_sem] theorem zpb {ι : Type} {inv : ι → Prop} {st : ι → St} {m : ι → Nat} {i : ι} {Q : Exit → St → Prop} {S : St} : Kf inv st m i Q .ret S = Q .ret S := rfl
theorem zi {ι:Type} {inv:ι→Prop} {st:ι→St} {m:ι→Nat} {i:ι} {Q:Exit→St→Prop} {S:St}(j:ι)(h1:inv j)(h2:LeS S (st j))(h3:m j<m i):Kf inv st m i Q .normal S:=⟨⟨j,h1⟩,.inl h2,h3⟩
theorem Kj {ι:Type} {inv:ι→Prop} {st:ι→St} {m:ι→Nat} {i:ι} {Q:Exit→St→Prop} {S:St}(j:ι)(mm:List (Tok×Tok))(h1:inv j)(h2:(okM 1000000 mm=true∧S.pin.all (fun t=>inM mm t==some t)=true)∧LeS (zb5 S mm) (st j))(h3:m j<m i):Kf inv st m i Q .normal S:=⟨⟨j,h1⟩,.inr ⟨mm,h2.1.1,h2.1.2,h2.2⟩,h3⟩
theorem qM [Gi] {P:Program} {D:List Nat} {c:Code} {Q:Exit→St→Prop} {S:St} {ι:Type}(inv:ι→Prop)(st:ι→St)(m:ι→Nat)(i:ι)(hi:inv i)(h0:LeS S (st i))(h:∀i,inv i→wpA P D c (Kf inv st m i Q) (st i)):wpA P D (.loop c) Q S:=
 ⟨{i:ι//inv i},fun i=>st i.1,fun i=>m i.1,⟨⟨i,hi⟩,h0⟩,fun i=>h i.1 i.2⟩
theorem zp {α:Type}(f:α→PV)(l:List α)(n:Nat)(h:n<l.length):elemAt (l.map f) n=f l[n]:=by simp[elemAt,h]
theorem zjn(x:AV):leA x x:=.inl rfl
theorem zg {P:Program} {ts:List (Nat×Option TypeId)} {R:AV→List (Tok×List AV)→Prop} {S:St}(x:AV)(hp:S.pin=[])(hx:(zf P S ts).1∧leT ((zf P S ts).2.upd (AM.fil (fun _=>false) ftt)) x)(hR:R x []):uT P [] ts R S:=by
 have e:(fun t:Tok=>([]:List Tok).contains t)=fun _=>false:=by funext t;simp
 refine⟨[],x,⟨hp,by rw[hp];rfl⟩,by rw[e];exact hx,?_⟩
 have:∀l:List (Tok×List AV),VI [] l=[]:=fun l=>by simp[VI]
 rw[this];exact hR
@[go_sem] theorem zo8 {P : Program} {pin : List Tok} {ts : List (Nat × Option TypeId)} {R : AV → List (Tok × List AV) → Prop} {S : St} : Wk P pin ts R .ret S = uT P pin ts R S := _root_.id rfl
@[go_sem] theorem zmf {P : Program} {pin : List Tok} {ts : List (Nat × Option TypeId)} {R : AV → List (Tok × List AV) → Prop} {S : St} : Wk P pin ts R .normal S = uT P pin ts R S := _root_.id rfl
theorem wrap64 [Gi] {x:Int}(h1: -9223372036854775808≤x)(h2:x≤9223372036854775807):IntKind.i64.wrap x=x:=by
 simp only[IntKind.wrap,IntKind.signed,IntKind.bits]
 simp
 omega
attribute [go_sem] qj zbE Option.map_some Option.map_none zcf V4 okC eqC zkS zj1 zkM zho zdy zaY zgy zi7 J5 Vg zce zjc VK xr uK UC UO Us St.itz itz yY VC Z5 WR sbD YH St.fz fz fz1 Zb zdR un1 un2 unG St.ev St.get St.set St.kept look zaE zn QW qt St.qE dOK yp zpH ZW ud
attribute [go_sem] zih zdW zdl zdu vO Ud zbH ptrEq xG Ux K1 zaZ qq ua vC zaT WB bad
attribute [go_sem] zkk zhT Uw uE zdO UD unA zd7 Vb U7 je zcV jg jr yc zbX KE u7 Y5 J7 vV zaK sliceB YW zkQ zfw VA wH wH.sl Option.bind_some Option.bind_none
attribute [go_sem] US Zz WQ zlD places xP toP zkP zfi PV.cells PV.one PV.fits UK ZX zjW uB Vi JX yw UE QS zW zey VV zlt zk3 kS sizedB ze7
attribute [go_sem] bzC vq zb5 zki uP Vk zoM zhm JR QA yR xt Qw vH QJ Kw ZM zfK AV.ren KK yf inM Q8 okM qW Zq Zw ja vj v7 zfD uj UJ kn xy
attribute [go_sem] St.fil AV.upd fil zS Ze ftt
theorem zd [Gi] {P:Program} {S:St} {f:FuncId} {args:List Operand} {dst:Option Nat} {K:St→Prop}(m:List (Tok×Tok)) {pin:List Tok} {as1:List AV} {rs:List (Tok×List AV)} {R:AV→List (Tok×List AV)→Prop}(hC:CR P f pin as1 rs R)
  (hm:okM (dst.getD S.n) m=true∧S.pin.all (Zq (dst.getD S.n) m pin)=true∧dOK S dst) (ha:(ZM S m args).1∧(ZM S m args).2=as1) (hr:qW S m m=rs)
  (hk:∀x rs',R x rs'→K ((v7 S (dst.getD S.n) m pin rs').qE dst (x.ren fun u=>some (Q8 (dst.getD S.n) m u)))):Yj P S f args dst K:=by
 subst hr
 obtain⟨ha,rfl⟩:=ha
 exact⟨m,pin,R,hm,ha,hC,hk⟩
theorem qO [Gi] {P:Program} {S:St} {f:FuncId} {cs:List AV} {args:List Operand} {dst:Option Nat} {K:St→Prop}(m:List (Tok×Tok)) {pin:List Tok} {as1:List AV} {rs:List (Tok×List AV)} {R:AV→List (Tok×List AV)→Prop}(hC:CR P f pin as1 rs R)
  (hm:okM (dst.getD S.n) m=true∧S.pin.all (Zq (dst.getD S.n) m pin)=true∧dOK S dst) (ha:(ZM S m args).1∧(ZM S m args).2++cs.map (zfK m)=as1) (hr:qW S m m=rs)
  (hk:∀x rs',R x rs'→K ((v7 S (dst.getD S.n) m pin rs').qE dst (x.ren fun u=>some (Q8 (dst.getD S.n) m u)))):zc0 P S f cs args dst K:=by
 subst hr
 obtain⟨ha,rfl⟩:=ha
 exact⟨m,pin,R,hm,ha,hC,hk⟩
theorem zA {P:Program} {pin:List Tok} {ts:List (Nat×Option TypeId)} {R:AV→List (Tok×List AV)→Prop} {S:St}(kr:List Tok)(x:AV)(hp:S.pin=pin∧pin.all (fun t=>kr.contains t)=true)(hx:(zf P S ts).1∧leT ((zf P S ts).2.upd (AM.fil (fun t=>kr.contains t) ftt)) x)(hR:R x (VI kr (S.fil (fun t=>kr.contains t) ftt).rs)):uT P pin ts R S:=by
 obtain⟨rfl,hp⟩:=hp
 exact⟨kr,x,⟨rfl,hp⟩,hx,hR⟩
attribute [go_sem] VI List.getElem?_cons_zero
def St.ofR(rs:List (Tok×List AV)):St:={n:=0,nv:=0,vs:=[],ts:=[],rs:=rs}
theorem GS.ZQ [Gi] {g:Gh} {w:World} {rs:List (Tok×List AV)}(h:GS g w rs) {d:Nat} {m:List (Tok×Tok)}(ok:okM d m=true):GS (g.ZQ m) w (qW (St.ofR rs) m m):=by
 refine⟨fun b u hk=>?_,fun b b' u hk hk'=>?_,fun b b' u hk hk'=>?_,fun b hb=>h.own b (fun e=>hb ?_),h.frb,fun b arr e=>⟨by show(g.K b).ren _=.prot;rw[(h.gl b arr e).1];rfl,(h.gl b arr e).2⟩⟩
 ·obtain⟨t,hk,hu⟩:=Kd.Z1.1 hk
  obtain⟨cs,hl,h0,arr,T,hb,hle,hc⟩:=h.roots b t hk
  refine⟨_,vP (S:=St.ofR rs) (Qg ok hu) hl,h0,arr,T,hb,by simpa using hle,fun j x hj=>?_⟩
  simp only[List.getElem?_map,Option.map_eq_some_iff]at hj
  obtain⟨y,hy,rfl⟩:=hj
  obtain⟨v,hv,h1,r⟩:=hc j y hy
  exact⟨v,hv,h1,zb.ren (Ren.ZQ g m) _ _ r⟩
 ·obtain⟨t,hk,hu⟩:=Kd.Z1.1 hk
  obtain⟨t',hk',hu'⟩:=Kd.Z1.1 hk'
  have e:=Qg ok hu
  rw[Qg ok hu']at e;injection e with e;subst e
  exact h.ur b b' _ hk hk'
 ·obtain⟨t,hk,hu⟩:=Kd.wj.1 hk
  obtain⟨t',hk',hu'⟩:=Kd.wj.1 hk'
  have e:=Qg ok hu
  rw[Qg ok hu']at e;injection e with e;subst e
  exact h.ut b b' _ hk hk'
 ·show(g.K b).ren _=.prot
  rw[e];rfl
theorem CR.ren [Gi] {P:Program} {f:FuncId} {pin:List Tok} {args:List AV} {rs:List (Tok×List AV)} {R R':AV→List (Tok×List AV)→Prop}(h:CR P f pin args rs R)(d:Nat)
  (hr:∀x rs',R x rs'→∃m,okM d m=true∧pin.all (fun t=>inM m t==some t)=true∧R' (x.ren (inM m)) (qW (St.ofR rs') m m)):CR P f pin args rs R':=by
 intro w g vs h1 h2
 refine(h w g vs h1 h2).mono ?_
 rintro e w' ⟨v,x,rs',g',rfl,hR,hx,hG,hA⟩
 obtain⟨m,ok,hp,hR'⟩:=hr x rs' hR
 refine⟨v,_,_,g'.ZQ m,rfl,hR',zb.ren (Ren.ZQ g' m) _ _ hx,hG.ZQ ok,⟨fun b hb hk=>?_,hA.ext,hA.out,hA.mono,fun b t hk ht=>?_⟩⟩
 ·obtain⟨a1,a2,a3⟩:=hA.frame b hb hk
  exact⟨a1,a2,by show(g'.K b).ren _=.prot;rw[a3];rfl⟩
 ·have:=List.all_eq_true.1 hp t ht
  simp at this
  exact⟨Kd.Z1.2 ⟨t,(hA.pins b t hk ht).1,this⟩,(hA.pins b t hk ht).2⟩
attribute [go_sem] St.ofR leT leP
theorem qk [Gi] {P:Program} {S:St} {dst:Option Nat} {x:Operand} {args:Array Operand} {argTypes:Array TypeId} {tt:TypeId} {pos:String} {after:Array Edge} {guard:Option (Nat×Bool)} {r:AV}(f:FuncId) {as1:List AV}
  (hC:CR P f [] as1 [] fun y rs=>rs=[]∧y=r) (hf:ze7 (S.ev x)=some f) (hb:((P.funcs[f]?).map (·.body.isSome))=some true∧((P.funcs[f]?).map (·.name))≠some "runtime.NumGoroutine")
  (ha:(ZM S [] args.toList).1∧(ZM S [] args.toList).2=as1):xB P S ⟨dst,.call ⟨.value x,args,argTypes⟩,tt,pos,after,guard⟩ r:=by
 unfold xB
 simp only[hf]
 obtain⟨h1,rfl⟩:=ha
 exact⟨hb,h1,hC⟩
theorem qm [Gi] {P:Program} {S:St} {o:Oper} {c:Option Bool} {K:St→Prop}(x:AV)(hx:WI x=true)(hv:xf o=true)(hp:c≠some false→xB P S o x)(hk:dOK S o.dst∧K (S.qE o.dst (gv c x))):Ys P S o c K:=
 ⟨x,⟨hx,hv,hp⟩,hk⟩
attribute [go_sem] gv vZ bsD bsR zca zqy kE Jz hdr List.isEmpty_cons List.isEmpty_nil xf ZZ kM Q1 Xq yN
def qD {α:Type}(n:Nat)(c:List α):List α:=(List.replicate n c).flatten
theorem qA {α:Type}(n:Nat)(c:List α):(qD n c).length=n*c.length:=by simp[qD]
end
end Go.AM
namespace Go.Proofs.YtfjdbbpimklecaaGreatDoor
section
open Go.AM
theorem mixed:Tryz.prog.follows .mixedOrders=true:=Tryz.checked.mixed
@[go_sem] theorem ty3 : ty Tryz.prog 3 = some ⟨.int .i64, 1, 8, some [.int .i64 0]⟩ := by kernel_rfl
@[go_sem] theorem ty4 : ty Tryz.prog 4 = some ⟨.bool, 1, 1, some [.bool false]⟩ := by kernel_rfl
@[go_sem] theorem ty5 : ty Tryz.prog 5 = some ⟨.int .u8, 1, 1, some [.int .u8 0]⟩ := by kernel_rfl
@[go_sem] theorem ty9 : ty Tryz.prog 9 = some ⟨.string, 1, 16, some [.str []]⟩ := by kernel_rfl
@[go_sem] theorem ty21 : ty Tryz.prog 21 = some ⟨.int .i32, 1, 4, some [.int .i32 0]⟩ := by kernel_rfl
@[go_sem] theorem ty22 : ty Tryz.prog 22 = some ⟨.slice 51, 1, 24, some [.opq (.slice none 0 0)]⟩ := by kernel_rfl
@[go_sem] theorem ty24 : ty Tryz.prog 24 = some ⟨.slice 197, 1, 24, some [.opq (.slice none 0 0)]⟩ := by kernel_rfl
@[go_sem] theorem ty26 : ty Tryz.prog 26 = some ⟨.pointer 112, 1, 8, some [.opq (.pointer none)]⟩ := by kernel_rfl
@[go_sem] theorem ty28 : ty Tryz.prog 28 = some ⟨.pointer 158, 1, 8, some [.opq (.pointer none)]⟩ := by kernel_rfl
@[go_sem] theorem ty30 : ty Tryz.prog 30 = some ⟨Tryz.t29.desc, 2, 16, some [.int .i64 0, .int .i64 0]⟩ := by kernel_rfl
@[go_sem] theorem ty32 : ty Tryz.prog 32 = some ⟨Tryz.t31.desc, 4, 32, some [.opq (.pointer none), .int .i64 0, .int .i64 0, .bool false]⟩ := by kernel_rfl
@[go_sem] theorem ty34 : ty Tryz.prog 34 = some ⟨.slice 126, 1, 24, some [.opq (.slice none 0 0)]⟩ := by kernel_rfl
@[go_sem] theorem ty36 : ty Tryz.prog 36 = some ⟨Tryz.t29.desc, 2, 16, some [.int .i64 0, .int .i64 0]⟩ := by kernel_rfl
@[go_sem] theorem ty38 : ty Tryz.prog 38 = some ⟨Tryz.t37.desc, 3, 40, some [.opq (.slice none 0 0), .int .i64 0, .int .i64 0]⟩ := by kernel_rfl
@[go_sem] theorem ty42 : ty Tryz.prog 42 = some ⟨Tryz.t41.desc, 3, 24, some [.opq (.pointer none), .int .i64 0, .int .i64 0]⟩ := by kernel_rfl
@[go_sem] theorem ty44 : ty Tryz.prog 44 = some ⟨.slice 45, 1, 24, some [.opq (.slice none 0 0)]⟩ := by kernel_rfl
@[go_sem] theorem ty45 : ty Tryz.prog 45 = some ⟨.slice 21, 1, 24, some [.opq (.slice none 0 0)]⟩ := by kernel_rfl
@[go_sem] theorem ty47 : ty Tryz.prog 47 = some ⟨Tryz.t46.desc, 3, 56, some [.opq (.slice none 0 0), .opq (.slice none 0 0), .int .i64 0]⟩ := by kernel_rfl
@[go_sem] theorem ty49 : ty Tryz.prog 49 = some ⟨Tryz.t46.desc, 3, 56, some [.opq (.slice none 0 0), .opq (.slice none 0 0), .int .i64 0]⟩ := by kernel_rfl
@[go_sem] theorem ty51 : ty Tryz.prog 51 = some ⟨Tryz.t50.desc, 5, 64, some [.opq (.slice none 0 0), .opq (.slice none 0 0), .int .i64 0, .bool false, .bool false]⟩ := by kernel_rfl
@[go_sem] theorem ty55 : ty Tryz.prog 55 = some ⟨Tryz.t54.desc, 3, 40, some [.opq (.slice none 0 0), .int .i64 0, .int .i64 0]⟩ := by kernel_rfl
@[go_sem] theorem ty60 : ty Tryz.prog 60 = some ⟨.slice 49, 1, 24, some [.opq (.slice none 0 0)]⟩ := by kernel_rfl
@[go_sem] theorem ty64 : ty Tryz.prog 64 = some ⟨Tryz.t63.desc, 2, 16, some [.int .i64 0, .int .i64 0]⟩ := by kernel_rfl
@[go_sem] theorem ty88 : ty Tryz.prog 88 = some ⟨.slice 90, 1, 24, some [.opq (.slice none 0 0)]⟩ := by kernel_rfl
@[go_sem] theorem ty90 : ty Tryz.prog 90 = some ⟨Tryz.t89.desc, 4, 40, some [.int .i64 0, .int .i64 0, .int .i64 0, .str []]⟩ := by kernel_rfl
@[go_sem] theorem ty96 : ty Tryz.prog 96 = some ⟨.slice 130, 1, 24, some [.opq (.slice none 0 0)]⟩ := by kernel_rfl
@[go_sem] theorem ty99 : ty Tryz.prog 99 = some ⟨.slice 163, 1, 24, some [.opq (.slice none 0 0)]⟩ := by kernel_rfl
@[go_sem] theorem ty104 : ty Tryz.prog 104 = some ⟨.pointer 278, 1, 8, some [.opq (.pointer none)]⟩ := by kernel_rfl
@[go_sem] theorem ty106 : ty Tryz.prog 106 = some ⟨.pointer 292, 1, 8, some [.opq (.pointer none)]⟩ := by kernel_rfl
@[go_sem] theorem ty108 : ty Tryz.prog 108 = some ⟨.map 119 21, 1, 8, some [.opq (.map none)]⟩ := by kernel_rfl
@[go_sem] theorem ty109 : ty Tryz.prog 109 = some ⟨.map 21 4, 1, 8, some [.opq (.map none)]⟩ := by kernel_rfl
@[go_sem] theorem ty110 : ty Tryz.prog 110 = some ⟨.pointer 223, 1, 8, some [.opq (.pointer none)]⟩ := by kernel_rfl
@[go_sem] theorem ty112 : ty Tryz.prog 112 = some ⟨Tryz.t111.desc, 7, 56, some [.opq (.pointer none), .opq (.pointer none), .opq (.pointer none), .opq (.pointer none), .opq (.pointer none), .opq (.map none), .opq (.map none)]⟩ := by kernel_rfl
@[go_sem] theorem ty113 : ty Tryz.prog 113 = some ⟨.slice 121, 1, 24, some [.opq (.slice none 0 0)]⟩ := by kernel_rfl
@[go_sem] theorem ty114 : ty Tryz.prog 114 = some ⟨.slice 117, 1, 24, some [.opq (.slice none 0 0)]⟩ := by kernel_rfl
@[go_sem] theorem ty117 : ty Tryz.prog 117 = some ⟨Tryz.t116.desc, 4, 32, some [.int .i64 0, .int .i64 0, .int .i64 0, .int .i64 0]⟩ := by kernel_rfl
@[go_sem] theorem ty119 : ty Tryz.prog 119 = some ⟨Tryz.t118.desc, 2, 8, some [.int .i32 0, .int .i32 0]⟩ := by kernel_rfl
@[go_sem] theorem ty121 : ty Tryz.prog 121 = some ⟨Tryz.t120.desc, 4, 24, some [.int .i64 0, .int .i64 0, .int .i32 0, .int .i32 0]⟩ := by kernel_rfl
@[go_sem] theorem ty126 : ty Tryz.prog 126 = some ⟨.slice 128, 1, 24, some [.opq (.slice none 0 0)]⟩ := by kernel_rfl
@[go_sem] theorem ty128 : ty Tryz.prog 128 = some ⟨Tryz.t127.desc, 2, 24, some [.str [], .int .i64 0]⟩ := by kernel_rfl
@[go_sem] theorem ty130 : ty Tryz.prog 130 = some ⟨Tryz.t89.desc, 4, 40, some [.int .i64 0, .int .i64 0, .int .i64 0, .str []]⟩ := by kernel_rfl
@[go_sem] theorem ty133 : ty Tryz.prog 133 = some ⟨.slice 182, 1, 24, some [.opq (.slice none 0 0)]⟩ := by kernel_rfl
@[go_sem] theorem ty136 : ty Tryz.prog 136 = some ⟨.slice 30, 1, 24, some [.opq (.slice none 0 0)]⟩ := by kernel_rfl
@[go_sem] theorem ty142 : ty Tryz.prog 142 = some ⟨.slice 248, 1, 24, some [.opq (.slice none 0 0)]⟩ := by kernel_rfl
@[go_sem] theorem ty146 : ty Tryz.prog 146 = some ⟨.slice 179, 1, 24, some [.opq (.slice none 0 0)]⟩ := by kernel_rfl
@[go_sem] theorem ty147 : ty Tryz.prog 147 = some ⟨.slice 3, 1, 24, some [.opq (.slice none 0 0)]⟩ := by kernel_rfl
@[go_sem] theorem ty151 : ty Tryz.prog 151 = some ⟨.slice 36, 1, 24, some [.opq (.slice none 0 0)]⟩ := by kernel_rfl
@[go_sem] theorem ty156 : ty Tryz.prog 156 = some ⟨.slice 159, 1, 24, some [.opq (.slice none 0 0)]⟩ := by kernel_rfl
@[go_sem] theorem ty158 : ty Tryz.prog 158 = some ⟨Tryz.t157.desc, 3, 40, some [.int .i64 0, .int .i64 0, .opq (.slice none 0 0)]⟩ := by kernel_rfl
@[go_sem] theorem ty159 : ty Tryz.prog 159 = some ⟨Tryz.t127.desc, 2, 24, some [.str [], .int .i64 0]⟩ := by kernel_rfl
@[go_sem] theorem ty163 : ty Tryz.prog 163 = some ⟨Tryz.t162.desc, 5, 48, some [.int .i64 0, .int .i64 0, .int .i64 0, .str [], .bool false]⟩ := by kernel_rfl
@[go_sem] theorem ty175 : ty Tryz.prog 175 = some ⟨Tryz.t175.desc, 1, 8, some [.opq .nilFunc]⟩ := by kernel_rfl
@[go_sem] theorem ty179 : ty Tryz.prog 179 = some ⟨Tryz.t127.desc, 2, 24, some [.str [], .int .i64 0]⟩ := by kernel_rfl
@[go_sem] theorem ty182 : ty Tryz.prog 182 = some ⟨Tryz.t127.desc, 2, 24, some [.str [], .int .i64 0]⟩ := by kernel_rfl
@[go_sem] theorem ty186 : ty Tryz.prog 186 = some ⟨.slice 5, 1, 24, some [.opq (.slice none 0 0)]⟩ := by kernel_rfl
@[go_sem] theorem ty188 : ty Tryz.prog 188 = some ⟨Tryz.t187.desc, 2, 32, some [.opq (.pointer none), .opq (.slice none 0 0)]⟩ := by kernel_rfl
@[go_sem] theorem ty197 : ty Tryz.prog 197 = some ⟨Tryz.t196.desc, 5, 40, some [.int .i64 0, .int .i64 0, .int .i64 0, .int .i64 0, .int .i64 0]⟩ := by kernel_rfl
@[go_sem] theorem ty198 : ty Tryz.prog 198 = some ⟨.slice 200, 1, 24, some [.opq (.slice none 0 0)]⟩ := by kernel_rfl
@[go_sem] theorem ty200 : ty Tryz.prog 200 = some ⟨Tryz.t199.desc, 3, 24, some [.int .i64 0, .int .i64 0, .int .i64 0]⟩ := by kernel_rfl
@[go_sem] theorem ty202 : ty Tryz.prog 202 = some ⟨.array 4 3, 4, 32, some [.int .i64 0, .int .i64 0, .int .i64 0, .int .i64 0]⟩ := by kernel_rfl
@[go_sem] theorem ty203 : ty Tryz.prog 203 = some ⟨.array 4 114, 4, 96, some [.opq (.slice none 0 0), .opq (.slice none 0 0), .opq (.slice none 0 0), .opq (.slice none 0 0)]⟩ := by kernel_rfl
@[go_sem] theorem ty204 : ty Tryz.prog 204 = some ⟨.slice 214, 1, 24, some [.opq (.slice none 0 0)]⟩ := by kernel_rfl
@[go_sem] theorem ty206 : ty Tryz.prog 206 = some ⟨.slice 114, 1, 24, some [.opq (.slice none 0 0)]⟩ := by kernel_rfl
@[go_sem] theorem ty207 : ty Tryz.prog 207 = some ⟨.array 4 4, 4, 4, some [.bool false, .bool false, .bool false, .bool false]⟩ := by kernel_rfl
@[go_sem] theorem ty212 : ty Tryz.prog 212 = some ⟨Tryz.t211.desc, 4, 4, some [.bool false, .bool false, .bool false, .bool false]⟩ := by kernel_rfl
@[go_sem] theorem ty214 : ty Tryz.prog 214 = some ⟨Tryz.t213.desc, 6, 24, some [.int .i64 0, .int .i64 0, .bool false, .bool false, .bool false, .bool false]⟩ := by kernel_rfl
@[go_sem] theorem ty221 : ty Tryz.prog 221 = some ⟨.slice 232, 1, 24, some [.opq (.slice none 0 0)]⟩ := by kernel_rfl
@[go_sem] theorem ty223 : ty Tryz.prog 223 = some ⟨Tryz.t222.desc, 3, 56, some [.int .i64 0, .opq (.slice none 0 0), .opq (.slice none 0 0)]⟩ := by kernel_rfl
@[go_sem] theorem ty225 : ty Tryz.prog 225 = some ⟨.map 232 3, 1, 8, some [.opq (.map none)]⟩ := by kernel_rfl
@[go_sem] theorem ty226 : ty Tryz.prog 226 = some ⟨.map 119 3, 1, 8, some [.opq (.map none)]⟩ := by kernel_rfl
@[go_sem] theorem ty228 : ty Tryz.prog 228 = some ⟨Tryz.t227.desc, 3, 24, some [.opq (.pointer none), .opq (.map none), .opq (.map none)]⟩ := by kernel_rfl
@[go_sem] theorem ty232 : ty Tryz.prog 232 = some ⟨.array 128 119, 256, 1024, some (qD 128 [.int .i32 0, .int .i32 0])⟩ := by kernel_rfl
@[go_sem] theorem ty248 : ty Tryz.prog 248 = some ⟨Tryz.t162.desc, 5, 48, some [.int .i64 0, .int .i64 0, .int .i64 0, .str [], .bool false]⟩ := by kernel_rfl
@[go_sem] theorem ty258 : ty Tryz.prog 258 = some ⟨Tryz.t257.desc, 5, 24, some [.int .i64 0, .int .i64 0, .int .u8 0, .int .u8 0, .int .i32 0]⟩ := by kernel_rfl
@[go_sem] theorem ty276 : ty Tryz.prog 276 = some ⟨.slice 285, 1, 24, some [.opq (.slice none 0 0)]⟩ := by kernel_rfl
@[go_sem] theorem ty278 : ty Tryz.prog 278 = some ⟨Tryz.t277.desc, 3, 56, some [.int .i64 0, .opq (.slice none 0 0), .opq (.slice none 0 0)]⟩ := by kernel_rfl
@[go_sem] theorem ty280 : ty Tryz.prog 280 = some ⟨.map 285 3, 1, 8, some [.opq (.map none)]⟩ := by kernel_rfl
@[go_sem] theorem ty281 : ty Tryz.prog 281 = some ⟨.map 3 3, 1, 8, some [.opq (.map none)]⟩ := by kernel_rfl
@[go_sem] theorem ty283 : ty Tryz.prog 283 = some ⟨Tryz.t282.desc, 3, 24, some [.opq (.pointer none), .opq (.map none), .opq (.map none)]⟩ := by kernel_rfl
@[go_sem] theorem ty285 : ty Tryz.prog 285 = some ⟨.array 128 3, 128, 1024, some (qD 128 [.int .i64 0])⟩ := by kernel_rfl
@[go_sem] theorem ty287 : ty Tryz.prog 287 = some ⟨.map 3 4, 1, 8, some [.opq (.map none)]⟩ := by kernel_rfl
@[go_sem] theorem ty290 : ty Tryz.prog 290 = some ⟨.slice 301, 1, 24, some [.opq (.slice none 0 0)]⟩ := by kernel_rfl
@[go_sem] theorem ty292 : ty Tryz.prog 292 = some ⟨Tryz.t291.desc, 3, 56, some [.int .i64 0, .opq (.slice none 0 0), .opq (.slice none 0 0)]⟩ := by kernel_rfl
@[go_sem] theorem ty294 : ty Tryz.prog 294 = some ⟨.map 301 3, 1, 8, some [.opq (.map none)]⟩ := by kernel_rfl
@[go_sem] theorem ty295 : ty Tryz.prog 295 = some ⟨.map 212 3, 1, 8, some [.opq (.map none)]⟩ := by kernel_rfl
@[go_sem] theorem ty297 : ty Tryz.prog 297 = some ⟨Tryz.t296.desc, 3, 24, some [.opq (.pointer none), .opq (.map none), .opq (.map none)]⟩ := by kernel_rfl
@[go_sem] theorem ty301 : ty Tryz.prog 301 = some ⟨.array 128 212, 512, 512, some (qD 128 [.bool false, .bool false, .bool false, .bool false])⟩ := by kernel_rfl
@[go_sem] theorem ty306 : ty Tryz.prog 306 = some ⟨.int .u64, 1, 8, some [.int .u64 0]⟩ := by kernel_rfl
@[go_sem] theorem ty311 : ty Tryz.prog 311 = some ⟨Tryz.t310.desc, 5, 40, some [.bool false, .int .i64 0, .int .i64 0, .int .i64 0, .bool false]⟩ := by kernel_rfl
@[go_sem] theorem ty342 : ty Tryz.prog 342 = some ⟨.int .u64, 1, 8, some [.int .u64 0]⟩ := by kernel_rfl
@[go_sem] theorem zrl : JP Tryz.prog 21 = some (.int .i32 0) := by kernel_rfl
@[go_sem] theorem zp4 : JP Tryz.prog 4 = some (.bool false) := by kernel_rfl
@[go_sem] theorem zp3 : JP Tryz.prog 3 = some (.int .i64 0) := by kernel_rfl
@[go_sem] theorem ck64 : QN Tryz.prog 64 = some [.i .i64, .i .i64] := by kernel_rfl
@[go_sem] theorem ck119 : QN Tryz.prog 119 = some [.i .i32, .i .i32] := by kernel_rfl
@[go_sem] theorem ck128 : QN Tryz.prog 128 = some [.s, .i .i64] := by kernel_rfl
@[go_sem] theorem ck159 : QN Tryz.prog 159 = some [.s, .i .i64] := by kernel_rfl
@[go_sem] theorem ck207 : QN Tryz.prog 207 = some [.b, .b, .b, .b] := by kernel_rfl
@[go_sem] theorem kk3 : ZI Tryz.prog 3 = some (false, [.i .i64]) := by kernel_rfl
@[go_sem] theorem zrm : ZI Tryz.prog 21 = some (false, [.i .i32]) := by kernel_rfl
@[go_sem] theorem zrd : ZI Tryz.prog 119 = some (true, [.i .i32, .i .i32]) := by kernel_rfl
@[go_sem] theorem zri : ZI Tryz.prog 212 = some (true, [.b, .b, .b, .b]) := by kernel_rfl
@[go_sem] theorem zrh : ZI Tryz.prog 232 = some (true, qD 128 [.i .i32, .i .i32]) := Wu ty232 (by kernel_rfl) (by kernel_rfl) ty119 (by decide)
@[go_sem] theorem zrj : ZI Tryz.prog 285 = some (true, qD 128 [.i .i64]) := Wu ty285 (by kernel_rfl) (by kernel_rfl) ty3 (by decide)
@[go_sem] theorem zrf : ZI Tryz.prog 301 = some (true, qD 128 [.b, .b, .b, .b]) := Wu ty301 (by kernel_rfl) (by kernel_rfl) ty212 (by decide)
attribute [go_sem] Tryz.t7 Tryz.t13 Tryz.t18 Tryz.t29 Tryz.t31 Tryz.t37 Tryz.t41 Tryz.t46 Tryz.t50 Tryz.t54 Tryz.t63 Tryz.t74 Tryz.t89 Tryz.t111 Tryz.t116 Tryz.t118 Tryz.t120 Tryz.t127 Tryz.t157 Tryz.t162 Tryz.t165 Tryz.t167 Tryz.t187 Tryz.t196 Tryz.t199 Tryz.t211 Tryz.t213 Tryz.t222 Tryz.t227 Tryz.t257 Tryz.t277 Tryz.t282 Tryz.t291 Tryz.t296 Tryz.t310 Tryz.t380 Tryz.t388 Tryz.t390 Tryz.t393 Tryz.t400
end
end Go.Proofs.YtfjdbbpimklecaaGreatDoor
