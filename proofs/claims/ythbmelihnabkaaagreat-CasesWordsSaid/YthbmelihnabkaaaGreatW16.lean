/- A part of the proof of this seat's statements, by an abstract machine: what each operation does to values, and what the law's functions compute. Conditions: as each law says. -/
import Derived.Test.YthbmelihnabkaaaGreatW15
import Derived.KernelRfl
import Derived.Test.YthbmelihnabkaaaGreatChecked
import Derived.Eval
section
namespace Go.AM
def zm6 [Gi](P:Program)(ops:Array Oper)(rest:List Oper)(K:St→Prop):St→Prop:=fun S=>Qb P ops rest S K
def zeK [Gi](P:Program)(D:List Nat)(y:Code)(Q:Exit→St→Prop):Exit→St→Prop:=fun e S=>match e with|.normal=>wpA P D y Q S|e=>Q e S
def zhs(id:Nat)(Q:Exit→St→Prop):Exit→St→Prop:=fun e S=>match e with|.exit i=>if i=id then Q .normal S else Q (.exit i) S|e=>Q e S
def WL [Gi](P:Program)(S:St)(o:Oper)(K:St→Prop):Option (Option Bool)→Prop
 |some c=>xf P S o c K
 |none=>False
def UW [Gi](P:Program)(S:St)(o:Oper)(K:St→Prop)(c:Option Bool):Option PR→Prop
 |some r=>match c with
  |none=>(r.1∧dOK S o.dst)∧K (S.qJ o.dst r.2)
  |some c=>((c=true→r.1)∧dOK S o.dst)∧K (S.qJ o.dst (.gd c r.2))
 |none=>match c with
  |none=>KJ P S o K
  |some c=>(c=true→KJ P S o K)∧(c=false→dOK S o.dst∧K (S.qJ o.dst (.gd false .zU)))
def XX [Gi](P:Program)(S:St)(o:Oper)(K:St→Prop):Option (Prop×St)→Prop
 |some r=>r.1∧K r.2
 |none=>KC P S o K
def vA [Gi](P:Program)(D:List Nat)(x y:Code)(Q:Exit→St→Prop)(S:St):AV→Prop
 |.p (.bool b)=>(b=true→wpA P D x Q S)∧(b=false→wpA P D y Q S)
 |_=>False
section
variable {P:Program} {D:List Nat} {ops:Array Oper} {S:St} {K:St→Prop} {Q:Exit→St→Prop}
@[go_sem] theorem zom [Gi] : Qb P ops [] S K = K S := _root_.id rfl
@[go_sem] theorem znR [Gi] {o : Oper} {rest : List Oper} : Qb P ops (o :: rest) S K = WL P S o (zm6 P ops rest K) (qT ops S o) := by
 simp only[Qb];unfold WL;split<;>simp_all;rfl
@[go_sem] theorem zn3 [Gi] {rest : List Oper} : zm6 P ops rest K S = Qb P ops rest S K := _root_.id rfl
@[go_sem] theorem zlY [Gi] {o : Oper} {c : Option Bool} : WL P S o K (some c) = UW P S o K c (Zv P S o) := by
 unfold WL xf UW;rfl
@[go_sem] theorem znk [Gi] {o : Oper} {c : Prop} {x : AV} : UW P S o K none (some (c, x)) = ((c ∧ dOK S o.dst) ∧ K (S.qJ o.dst x)) := rfl
@[go_sem] theorem zoq [Gi] {o : Oper} {b : Bool} {c : Prop} {x : AV} : UW P S o K (some b) (some (c, x)) = (((b = true → c) ∧ dOK S o.dst) ∧ K (S.qJ o.dst (.gd b x))) := rfl
@[go_sem] theorem znu [Gi] {o : Oper} : UW P S o K none none = XX P S o K (zdL P S o) := by
 unfold UW KJ XX;rfl
@[go_sem] theorem zl4 [Gi] {o : Oper} {b : Bool} : UW P S o K (some b) none = ((b = true → XX P S o K (zdL P S o)) ∧ (b = false → dOK S o.dst ∧ K (S.qJ o.dst (.gd false .zU)))) := by
 unfold UW KJ XX;rfl
@[go_sem] theorem zmr [Gi] {o : Oper} {c : Prop} {S' : St} : XX P S o K (some (c, S')) = (c ∧ K S') := rfl
@[go_sem] theorem zml [Gi] {o : Oper} : XX P S o K none = KC P S o K := rfl
@[go_sem] theorem zoo [Gi] : wpA P D .skip Q S = Q .normal S := _root_.id rfl
@[go_sem] theorem zng [Gi] {id : Nat} {l : List Oper} : wpA P D (.region id l.toArray false) Q S = Qb P l.toArray l { S with ts := [] } (Q .normal) := _root_.id rfl
def zd7 [Gi](P:Program)(l:List Oper)(K:St→Prop)(S:St):Bool→Prop
 |true=>ub P l.toArray l (VG P l S) K
 |false=>Qb P l.toArray l S K
def zck [Gi](P:Program)(l:List Oper)(K:St→Prop)(S:St):Bool→Bool→Prop
 |true,_=>WR P l.toArray S K
 |false,c=>zd7 P l K S c
def zct [Gi](P:Program)(l:List Oper)(K:St→Prop)(S:St):Bool→Bool→Bool→Prop
 |true,_,_=>zfV P l.toArray K S
 |false,b,c=>zck P l K S b c
@[go_sem] theorem zlZ [Gi] {id : Nat} {l : List Oper} : wpA P D (.region id l.toArray true) Q S = zct P l (Q .normal) { S with ts := [] } (D.contains (id + 200000)) (D.contains (id + 100000)) (D.contains id) := by
 unfold zct zck zd7
 simp only[wpA,Bool.true_and]
 cases D.contains (id+200000)<;>cases D.contains (id+100000)<;>cases D.contains id<;>rfl
@[go_sem] theorem zlW [Gi] {l : List Oper} {K : St → Prop} {b c : Bool} : zct P l K S false b c = zck P l K S b c := _root_.id rfl
theorem Zh [Gi] {l:List Oper} {K:St→Prop} {b c:Bool}(t:OT)(h1:(Region.noSelect l.toArray&&okT l.toArray l.toArray.size (Array.replicate l.toArray.size false) t)=true)(h2:kE P l.toArray K t S):zct P l K S true b c:=⟨t,K,h1,h2,fun _ h=>.inl h⟩
theorem zfF [Gi] {l:List Oper} {K:St→Prop} {b c:Bool}(t:OT)(S1:St)(h1:(Region.noSelect l.toArray&&okT l.toArray l.toArray.size (Array.replicate l.toArray.size false) t)=true)(h2:kE P l.toArray (fun S'=>LeS S' S1) t S)(h3:K S1):zct P l K S true b c:=⟨t,_,h1,h2,fun _ h=>.inr ⟨S1,.inl h,h3⟩⟩
def stepT [Gi](P:Program)(ops:Array Oper)(S:St)(K:St→Prop):Option Oper→Prop
 |some o=>zh1 (Zv P S o) (zbT o)∧WL P S o K (qT ops S o)
 |none=>False
def zi4 [Gi](P:Program)(ops:Array Oper)(K:St→Prop)(t:OT):St→Prop:=fun S=>kE P ops K t S
@[go_sem] theorem znQ [Gi] {ops : Array Oper} {K : St → Prop} {t : OT} : zi4 P ops K t S = kE P ops K t S := _root_.id rfl
@[go_sem] theorem zn6 [Gi] {ops : Array Oper} {K : St → Prop} {i c : Nat} {t : OT} : kE P ops K (.now i c t) S = zjm P S c (zi4 P ops K t) ops[i]? := by simp only [kE]; rfl
@[go_sem] theorem znz {K : St → Prop} {c : Nat} {o : Oper} : zjm P S c K (some o) = ziX P S o c K (Zv P S o) := rfl
@[go_sem] theorem znw {K : St → Prop} {c : Nat} {o : Oper} {p : Prop} {x : AV} : ziX P S o c K (some (p, x)) = ((p ∧ dOK S o.dst) ∧ zhB c (vP S o x) (Vz o || Jr x) ∧ K (S.qJ o.dst x)) := rfl
@[go_sem] theorem zo6 {a b : Bool} : zhB 0 a b = True := rfl
@[go_sem] theorem zpa {a b : Bool} : zhB 1 a b = ((a || b) = true) := rfl
@[go_sem] theorem zpg {a b : Bool} : zhB 2 a b = (a = true) := rfl
@[go_sem] theorem znU [Gi] {ops : Array Oper} {K : St → Prop} : kE P ops K (.mk []) S = K S := by simp only [kE]
@[go_sem] theorem znP [Gi] {ops : Array Oper} {K : St → Prop} {x : Nat × OT} {l : List (Nat × OT)} : kE P ops K (.mk (x :: l)) S = yO P ops K (x :: l) S := by simp only [kE]
@[go_sem] theorem znE [Gi] {ops : Array Oper} {K : St → Prop} : yO P ops K [] S = True := by simp only [yO]
@[go_sem] theorem zmQ [Gi] {ops : Array Oper} {K : St → Prop} {i : Nat} {t : OT} {l : List (Nat × OT)} : yO P ops K ((i, t) :: l) S = (stepT P ops S (zi4 P ops K t) ops[i]? ∧ yO P ops K l S) := by
 simp only[yO]
 cases ops[i]? with
 |none=>rfl
 |some o=>simp only[stepT,WL];cases qT ops S o<;>rfl
@[go_sem] theorem zmC [Gi] {ops : Array Oper} {K : St → Prop} {o : Oper} : stepT P ops S K (some o) = (zh1 (Zv P S o) (zbT o) ∧ WL P S o K (qT ops S o)) := rfl
@[go_sem] theorem zm3 {o : Option PR} : zh1 o false = True := rfl
@[go_sem] theorem zmo [Gi] {l : List Oper} {c : Bool} : zck P l K S true c = WR P l.toArray S K := _root_.id rfl
@[go_sem] theorem zlU [Gi] {l : List Oper} {c : Bool} : zck P l K S false c = zd7 P l K S c := _root_.id rfl
def zjq(P:Program)(t:Tok)(ov:Nat)(rest:List Oper)(K:St→Prop):Option (Prop×St)→Prop
 |some r=>r.1∧y6 P t ov rest r.2 K
 |none=>False
def zba(P:Program)(t:Tok)(ov:Nat)(S:St)(o:Oper)(rest:List Oper)(K:St→Prop):Option PR→Prop
 |some r=>(r.1∧(Uu o || Jr r.2)=true∧dOK S o.dst)∧opsL P t ov rest (S.qJ o.dst r.2) K
 |none=>False
def zf1(P:Program)(t:Tok)(ov:Nat)(S:St)(o:Oper)(rest:List Oper)(K:St→Prop):Bool→Prop
 |true=>zba P t ov S o rest K (Zv P (Vp t S) o)
 |false=>y6 P t ov (o::rest) S K
@[go_sem] theorem zos {t : Tok} {ov : Nat} : opsL P t ov [] S K = K S := rfl
@[go_sem] theorem znO {t : Tok} {ov : Nat} {o : Oper} {rest : List Oper} : opsL P t ov (o :: rest) S K = zf1 P t ov S o rest K (Qk o) := by
 unfold zf1 zba
 simp only[opsL]
 cases Qk o
 ·rfl
 ·simp only[if_true]
  cases Zv P (Vp t S) o<;>rfl
@[go_sem] theorem znC {t : Tok} {ov : Nat} : y6 P t ov [] S K = K S := rfl
@[go_sem] theorem zmU {t : Tok} {ov : Nat} {o : Oper} {rest : List Oper} : y6 P t ov (o :: rest) S K = zjq P t ov rest K (zdU P t ov S o) := by
 unfold zjq
 simp only[y6]
 cases zdU P t ov S o<;>rfl
@[go_sem] theorem zmy {t : Tok} {ov : Nat} {o : Oper} {rest : List Oper} : zf1 P t ov S o rest K true = zba P t ov S o rest K (Zv P (Vp t S) o) := rfl
@[go_sem] theorem zmb {t : Tok} {ov : Nat} {o : Oper} {rest : List Oper} : zf1 P t ov S o rest K false = y6 P t ov (o :: rest) S K := rfl
@[go_sem] theorem zl6 {t : Tok} {ov : Nat} {o : Oper} {rest : List Oper} {r : PR} : zba P t ov S o rest K (some r) = ((r.1 ∧ (Uu o || Jr r.2) = true ∧ dOK S o.dst) ∧ opsL P t ov rest (S.qJ o.dst r.2) K) := rfl
@[go_sem] theorem znq {t : Tok} {ov : Nat} {rest : List Oper} {r : Prop × St} : zjq P t ov rest K (some r) = (r.1 ∧ y6 P t ov rest r.2 K) := rfl
attribute [go_sem] vP JY zbT Vz
attribute [go_sem] Vl Uu Jr zcU zjG Vp zdU WR
@[go_sem] theorem zmO [Gi] {l : List Oper} : zd7 P l K S true = ub P l.toArray l (VG P l S) K := _root_.id rfl
@[go_sem] theorem zl3 [Gi] {l : List Oper} : zd7 P l K S false = Qb P l.toArray l S K := _root_.id rfl
def zjJ [Gi](P:Program)(ops:Array Oper)(rest:List Oper)(K:St→Prop):St→Prop:=fun S=>ub P ops rest S K
@[go_sem] theorem zns [Gi] {rest : List Oper} : zjJ P ops rest K S = ub P ops rest S K := _root_.id rfl
def J8 [Gi](P:Program)(S:St)(o:Oper)(c:Option Bool)(K:St→Prop):Prop:=∃x,(Wr x=true∧uv o=true∧(c≠some false→xH P S o x))∧dOK S o.dst∧K (S.qJ o.dst (gv c x))
def zaw [Gi](P:Program)(S:St)(o:Oper)(K:St→Prop)(c:Option Bool):Option PR→Prop
 |some r=>(c≠some false→r.1)∧dOK S o.dst∧K (S.qJ o.dst (gv c r.2))
 |none=>J8 P S o c K
def KD [Gi](P:Program)(S:St)(o:Oper)(K:St→Prop)(c:Option Bool):Option PR→Prop
 |some r=>(c≠some false→r.1)∧dOK S o.dst∧K (S.qJ o.dst (gv c r.2))
 |none=>zaw P S o K c (bsD P S o)
def zcs [Gi](P:Program)(S:St)(o:Oper)(K:St→Prop)(c:Option Bool):Option (Nat×List AV)→Prop
 |some (d,cs)=>(c=none∧S.pin.contains [d]=false∧zI S.rs [d]=some cs)∧dOK S o.dst∧K (S.qJ o.dst (.lp [d] 0))
 |none=>KD P S o K c (vY P S o)
def zf8 [Gi](P:Program)(S:St)(o:Oper)(K:St→Prop):Option (Option Bool)→Prop
 |some c=>zcs P S o K c (jt P o)
 |none=>False
def zgz [Gi](P:Program)(ops:Array Oper)(S:St)(o:Oper)(rest:List Oper)(K:St→Prop):Bool→Prop
 |true=>zf8 P S o (zjJ P ops rest K) (qT ops S o)
 |false=>Qb P ops (o::rest) S K
@[go_sem] theorem zoa [Gi] : ub P ops [] S K = K S := _root_.id rfl
@[go_sem] theorem znJ [Gi] {o : Oper} {rest : List Oper} : ub P ops (o :: rest) S K = zgz P ops S o rest K (hdr o rest) := by
 unfold ub zgz
 cases hdr o rest
 ·simp
 ·simp only[if_true]
  unfold zf8
  cases qT ops S o with
  |none=>rfl
  |some c=>
   simp only[]
   unfold zcs WZ
   cases hz:jt P o with
   |some dc=>
    obtain⟨d,cs⟩:=dc
    simp only[]
    refine propext ⟨?_,?_⟩
    ·rintro⟨x,⟨rfl,rfl,h1,h2⟩,h3,h4⟩;exact⟨⟨rfl,h1,h2⟩,h3,h4⟩
    ·rintro⟨⟨rfl,h1,h2⟩,h3,h4⟩;exact⟨_,⟨rfl,rfl,h1,h2⟩,h3,h4⟩
   |none=>
    simp only[]
    unfold KD
    cases hp:vY P S o with
    |none=>
     simp only[]
     unfold zaw
     cases hb:bsD P S o with
     |none=>simp only[];unfold J8;rfl
     |some r=>
      simp only[]
      refine propext ⟨?_,?_⟩
      ·rintro⟨x,⟨rfl,h1⟩,h2,h3⟩;exact⟨h1,h2,h3⟩
      ·rintro⟨h1,h2,h3⟩;exact⟨_,⟨rfl,h1⟩,h2,h3⟩
    |some r=>
     simp only[]
     refine propext ⟨?_,?_⟩
     ·rintro⟨x,⟨rfl,h1⟩,h2,h3⟩;exact⟨h1,h2,h3⟩
     ·rintro⟨h1,h2,h3⟩;exact⟨_,⟨rfl,h1⟩,h2,h3⟩
@[go_sem] theorem zmR [Gi] {o : Oper} {rest : List Oper} : zgz P ops S o rest K true = zf8 P S o (zjJ P ops rest K) (qT ops S o) := rfl
@[go_sem] theorem zl1 [Gi] {o : Oper} {rest : List Oper} : zgz P ops S o rest K false = Qb P ops (o :: rest) S K := rfl
@[go_sem] theorem zmE [Gi] {o : Oper} {c : Option Bool} : zf8 P S o K (some c) = zcs P S o K c (jt P o) := rfl
@[go_sem] theorem zmz [Gi] {o : Oper} {c : Option Bool} : zcs P S o K c none = KD P S o K c (vY P S o) := rfl
@[go_sem] theorem zmP [Gi] {o : Oper} {c : Option Bool} {d : Nat} {cs : List AV} : zcs P S o K c (some (d, cs)) = ((c = none ∧ S.pin.contains [d] = false ∧ zI S.rs [d] = some cs) ∧ dOK S o.dst ∧ K (S.qJ o.dst (.lp [d] 0))) := rfl
@[go_sem] theorem zm8 [Gi] {o : Oper} {p : Prop} {x : AV} : KD P S o K none (some (p, x)) = (p ∧ dOK S o.dst ∧ K (S.qJ o.dst x)) := by simp [KD, gv]
@[go_sem] theorem znm [Gi] {o : Oper} {b : Bool} {p : Prop} {x : AV} : KD P S o K (some b) (some (p, x)) = ((b = true → p) ∧ dOK S o.dst ∧ K (S.qJ o.dst (.gd b x))) := by simp [KD, gv]
@[go_sem] theorem zmH [Gi] {o : Oper} {c : Option Bool} : KD P S o K c none = zaw P S o K c (bsD P S o) := rfl
@[go_sem] theorem zmV [Gi] {o : Oper} {c : Option Bool} : zaw P S o K c none = J8 P S o c K := rfl
@[go_sem] theorem zmX [Gi] {o : Oper} {p : Prop} {x : AV} : zaw P S o K none (some (p, x)) = (p ∧ dOK S o.dst ∧ K (S.qJ o.dst x)) := by simp [zaw, gv]
@[go_sem] theorem zbG [Gi] {x y : Code} : wpA P D (.seq x y) Q S = wpA P D x (zeK P D y Q) S := _root_.id rfl
@[go_sem] theorem zoD [Gi] {c : Operand} {x y : Code} : wpA P D (.cond c x y) Q S = vA P D x y Q S (S.ev c) := _root_.id rfl
@[go_sem] theorem znB [Gi] {id : Nat} {c : Code} : wpA P D (.block id c) Q S = wpA P D c (zhs id Q) S := _root_.id rfl
@[go_sem] theorem znS [Gi] {id : Nat} : wpA P D (.exit id) Q S = Q (.exit id) S := _root_.id rfl
@[go_sem] theorem zoW [Gi] : wpA P D .ret Q S = Q .ret S := _root_.id rfl
@[go_sem] theorem zmj [Gi] {x y : Code} : vA P D x y Q S (.p (.bool true)) = wpA P D x Q S := by simp [vA]
@[go_sem] theorem zmd [Gi] {x y : Code} : vA P D x y Q S (.p (.bool false)) = wpA P D y Q S := by simp [vA]
theorem qk [Gi] {x y:Code} {b:Bool}(h1:b=true→wpA P D x Q S)(h2:b=false→wpA P D y Q S):vA P D x y Q S (.p (.bool b)):=⟨h1,h2⟩
theorem zw [Gi] {x y:Code} {p:Prop}[Decidable p](h1:p→wpA P D x Q S)(h2:¬p→wpA P D y Q S):vA P D x y Q S (.p (.bool (decide p))):=⟨fun h=>h1 (of_decide_eq_true h),fun h=>h2 (of_decide_eq_false h)⟩
theorem xJ [Gi] {x y:Code} {p:Prop}[Decidable p](h1:¬p→wpA P D x Q S)(h2:p→wpA P D y Q S):vA P D x y Q S (.p (.bool (!decide p))):=⟨fun h=>h1 (by simpa using h),fun h=>h2 (by simpa using h)⟩
@[go_sem] theorem zdt [Gi] {y : Code} : zeK P D y Q .normal S = wpA P D y Q S := _root_.id rfl
@[go_sem] theorem znx [Gi] {y : Code} {i : Nat} : zeK P D y Q (.exit i) S = Q (.exit i) S := _root_.id rfl
@[go_sem] theorem zoM [Gi] {y : Code} : zeK P D y Q .ret S = Q .ret S := _root_.id rfl
@[go_sem] theorem zmc {id : Nat} : zhs id Q .normal S = Q .normal S := rfl
@[go_sem] theorem znF {id i : Nat} : zhs id Q (.exit i) S = if i = id then Q .normal S else Q (.exit i) S := rfl
@[go_sem] theorem zou {id : Nat} : zhs id Q .ret S = Q .ret S := rfl
end
def Kw {ι:Type}(inv:ι→Prop)(st:ι→St)(m:ι→Nat)(i:ι)(Q:Exit→St→Prop):Exit→St→Prop:=fun e S=>match e with|.normal=>∃j:{i:ι//inv i},LeR S (st j.1)∧m j.1<m i|e=>Q e S
@[go_sem] theorem zmx {ι : Type} {inv : ι → Prop} {st : ι → St} {m : ι → Nat} {i : ι} {Q : Exit → St → Prop} {S : St} {k : Nat} : Kw inv st m i Q (.exit k) S = Q (.exit k) S := rfl
@[go_sem] theorem znL {ι : Type} {inv : ι → Prop} {st : ι → St} {m : ι → Nat} {i : ι} {Q : Exit → St → Prop} {S : St} : Kw inv st m i Q .ret S = Q .ret S := rfl
theorem zf {ι:Type} {inv:ι→Prop} {st:ι→St} {m:ι→Nat} {i:ι} {Q:Exit→St→Prop} {S:St}(j:ι)(h1:inv j)(h2:LeS S (st j))(h3:m j<m i):Kw inv st m i Q .normal S:=⟨⟨j,h1⟩,.inl h2,h3⟩
theorem xj {ι:Type} {inv:ι→Prop} {st:ι→St} {m:ι→Nat} {i:ι} {Q:Exit→St→Prop} {S:St}(j:ι)(mm:List (Tok×Tok))(h1:inv j)(h2:(okM 1000000 mm=true∧S.pin.all (fun t=>inM mm t==some t)=true)∧LeS (zcW S mm) (st j))(h3:m j<m i):Kw inv st m i Q .normal S:=⟨⟨j,h1⟩,.inr ⟨mm,h2.1.1,h2.1.2,h2.2⟩,h3⟩
theorem xZ [Gi] {P:Program} {D:List Nat} {c:Code} {Q:Exit→St→Prop} {S:St} {ι:Type}(inv:ι→Prop)(st:ι→St)(m:ι→Nat)(i:ι)(hi:inv i)(h0:LeS S (st i))(h:∀i,inv i→wpA P D c (Kw inv st m i Q) (st i)):wpA P D (.loop c) Q S:=
 ⟨{i:ι//inv i},fun i=>st i.1,fun i=>m i.1,⟨⟨i,hi⟩,h0⟩,fun i=>h i.1 i.2⟩
theorem zt {α:Type}(f:α→PV)(l:List α)(n:Nat)(h:n<l.length):elemAt (l.map f) n=f l[n]:=by simp[elemAt,h]
theorem zj5(x:AV):leA x x:=.inl rfl
theorem zg {P:Program} {ts:List (Nat×Option TypeId)} {R:AV→List (Tok×List AV)→Prop} {S:St}(x:AV)(hp:S.pin=[])(hx:(zd P S ts).1∧leT ((zd P S ts).2.upd (AM.fil (fun _=>false) ftt)) x)(hR:R x []):WG P [] ts R S:=by
 have e:(fun t:Tok=>([]:List Tok).contains t)=fun _=>false:=by funext t;simp
 refine⟨[],x,⟨hp,by rw[hp];rfl⟩,by rw[e];exact hx,?_⟩
 have:∀l:List (Tok×List AV),Ko [] l=[]:=fun l=>by simp[Ko]
 rw[this];exact hR
@[go_sem] theorem znA {P : Program} {pin : List Tok} {ts : List (Nat × Option TypeId)} {R : AV → List (Tok × List AV) → Prop} {S : St} : vw P pin ts R .ret S = WG P pin ts R S := _root_.id rfl
@[go_sem] theorem zli {P : Program} {pin : List Tok} {ts : List (Nat × Option TypeId)} {R : AV → List (Tok × List AV) → Prop} {S : St} : vw P pin ts R .normal S = WG P pin ts R S := _root_.id rfl
theorem wrap64 [Gi] {x:Int}(h1: -9223372036854775808≤x)(h2:x≤9223372036854775807):IntKind.i64.wrap x=x:=by
 simp only[IntKind.wrap,IntKind.signed,IntKind.bits]
 simp
 omega
attribute [go_sem] qT zaS Option.map_some Option.map_none zdS V5 okC eqC zj2 zj8 zj0 zh8 zc3 zbI zgk zjv Jz W8 zdP zjR Vr xn uJ UQ UD Uv St.itz itz xd Vj Qn WI sbD Ya St.fz fz fz1 Zv zdL un1 un2 unG St.ev St.get St.set St.kept look zbu zI jG qt St.qJ dOK yE zon Qh wE
attribute [go_sem] zg9 zcu zd1 zcK vC UN zbJ ptrEq x6 V9 K3 zbd qu vL ud zbF WB bad
attribute [go_sem] zjO zhN UI uw zdO UB unA zdm Vn Kk kG zcb jF jE yu zaK Vf uW JJ Yn vU zbr sliceB JD zjW zeP Vo wv wv.sl Option.bind_some Option.bind_none
attribute [go_sem] UU ZR WD zlm jr x8 toP ziG zcc PV.cells PV.one PV.fits VP Qi zix uI VC Jt yW UT je z7 zeZ Ve zly zjM yd sizedB zfk
attribute [go_sem] bzC vq zcW zi9 uD Vd zm9 zhi YO jl y8 xq Q3 uj QK KC Z9 zfn AV.ren Yg xc inM yq okM Qf jv jw J2 U9 vZ zew ug Ut kB xy
attribute [go_sem] St.fil AV.upd fil zE Zu ftt
theorem zc [Gi] {P:Program} {S:St} {f:FuncId} {args:List Operand} {dst:Option Nat} {K:St→Prop}(m:List (Tok×Tok)) {pin:List Tok} {as1:List AV} {rs:List (Tok×List AV)} {R:AV→List (Tok×List AV)→Prop}(hC:CR P f pin as1 rs R)
  (hm:okM (dst.getD S.n) m=true∧S.pin.all (jv (dst.getD S.n) m pin)=true∧dOK S dst) (ha:(Z9 S m args).1∧(Z9 S m args).2=as1) (hr:Qf S m m=rs)
  (hk:∀x rs',R x rs'→K ((vZ S (dst.getD S.n) m pin rs').qJ dst (x.ren fun u=>some (yq (dst.getD S.n) m u)))):JP P S f args dst K:=by
 subst hr
 obtain⟨ha,rfl⟩:=ha
 exact⟨m,pin,R,hm,ha,hC,hk⟩
theorem vS [Gi] {P:Program} {S:St} {f:FuncId} {cs:List AV} {args:List Operand} {dst:Option Nat} {K:St→Prop}(m:List (Tok×Tok)) {pin:List Tok} {as1:List AV} {rs:List (Tok×List AV)} {R:AV→List (Tok×List AV)→Prop}(hC:CR P f pin as1 rs R)
  (hm:okM (dst.getD S.n) m=true∧S.pin.all (jv (dst.getD S.n) m pin)=true∧dOK S dst) (ha:(Z9 S m args).1∧(Z9 S m args).2++cs.map (zfn m)=as1) (hr:Qf S m m=rs)
  (hk:∀x rs',R x rs'→K ((vZ S (dst.getD S.n) m pin rs').qJ dst (x.ren fun u=>some (yq (dst.getD S.n) m u)))):zcN P S f cs args dst K:=by
 subst hr
 obtain⟨ha,rfl⟩:=ha
 exact⟨m,pin,R,hm,ha,hC,hk⟩
theorem zi {P:Program} {pin:List Tok} {ts:List (Nat×Option TypeId)} {R:AV→List (Tok×List AV)→Prop} {S:St}(kr:List Tok)(x:AV)(hp:S.pin=pin∧pin.all (fun t=>kr.contains t)=true)(hx:(zd P S ts).1∧leT ((zd P S ts).2.upd (AM.fil (fun t=>kr.contains t) ftt)) x)(hR:R x (Ko kr (S.fil (fun t=>kr.contains t) ftt).rs)):WG P pin ts R S:=by
 obtain⟨rfl,hp⟩:=hp
 exact⟨kr,x,⟨rfl,hp⟩,hx,hR⟩
attribute [go_sem] Ko List.getElem?_cons_zero
def St.ofR(rs:List (Tok×List AV)):St:={n:=0,nv:=0,vs:=[],ts:=[],rs:=rs}
theorem GS.Qa [Gi] {g:Gh} {w:World} {rs:List (Tok×List AV)}(h:GS g w rs) {d:Nat} {m:List (Tok×Tok)}(ok:okM d m=true):GS (g.Qa m) w (Qf (St.ofR rs) m m):=by
 refine⟨fun b u hk=>?_,fun b b' u hk hk'=>?_,fun b b' u hk hk'=>?_,fun b hb=>h.own b (fun e=>hb ?_),h.frb,fun b arr e=>⟨by show(g.K b).ren _=.prot;rw[(h.gl b arr e).1];rfl,(h.gl b arr e).2⟩⟩
 ·obtain⟨t,hk,hu⟩:=Kd.Ql.1 hk
  obtain⟨cs,hl,h0,arr,T,hb,hle,hc⟩:=h.roots b t hk
  refine⟨_,uc (S:=St.ofR rs) (QJ ok hu) hl,h0,arr,T,hb,by simpa using hle,fun j x hj=>?_⟩
  simp only[List.getElem?_map,Option.map_eq_some_iff]at hj
  obtain⟨y,hy,rfl⟩:=hj
  obtain⟨v,hv,h1,r⟩:=hc j y hy
  exact⟨v,hv,h1,zb.ren (Ren.Qa g m) _ _ r⟩
 ·obtain⟨t,hk,hu⟩:=Kd.Ql.1 hk
  obtain⟨t',hk',hu'⟩:=Kd.Ql.1 hk'
  have e:=QJ ok hu
  rw[QJ ok hu']at e;injection e with e;subst e
  exact h.ur b b' _ hk hk'
 ·obtain⟨t,hk,hu⟩:=Kd.x7.1 hk
  obtain⟨t',hk',hu'⟩:=Kd.x7.1 hk'
  have e:=QJ ok hu
  rw[QJ ok hu']at e;injection e with e;subst e
  exact h.ut b b' _ hk hk'
 ·show(g.K b).ren _=.prot
  rw[e];rfl
theorem CR.ren [Gi] {P:Program} {f:FuncId} {pin:List Tok} {args:List AV} {rs:List (Tok×List AV)} {R R':AV→List (Tok×List AV)→Prop}(h:CR P f pin args rs R)(d:Nat)
  (hr:∀x rs',R x rs'→∃m,okM d m=true∧pin.all (fun t=>inM m t==some t)=true∧R' (x.ren (inM m)) (Qf (St.ofR rs') m m)):CR P f pin args rs R':=by
 intro w g vs h1 h2
 refine(h w g vs h1 h2).mono ?_
 rintro e w' ⟨v,x,rs',g',rfl,hR,hx,hG,hA⟩
 obtain⟨m,ok,hp,hR'⟩:=hr x rs' hR
 refine⟨v,_,_,g'.Qa m,rfl,hR',zb.ren (Ren.Qa g' m) _ _ hx,hG.Qa ok,⟨fun b hb hk=>?_,hA.ext,hA.out,hA.mono,fun b t hk ht=>?_⟩⟩
 ·obtain⟨a1,a2,a3⟩:=hA.frame b hb hk
  exact⟨a1,a2,by show(g'.K b).ren _=.prot;rw[a3];rfl⟩
 ·have:=List.all_eq_true.1 hp t ht
  simp at this
  exact⟨Kd.Ql.2 ⟨t,(hA.pins b t hk ht).1,this⟩,(hA.pins b t hk ht).2⟩
attribute [go_sem] St.ofR leT leP
theorem jP [Gi] {P:Program} {S:St} {dst:Option Nat} {x:Operand} {args:Array Operand} {argTypes:Array TypeId} {tt:TypeId} {pos:String} {after:Array Edge} {guard:Option (Nat×Bool)} {r:AV}(f:FuncId) {as1:List AV}
  (hC:CR P f [] as1 [] fun y rs=>rs=[]∧y=r) (hf:zfk (S.ev x)=some f) (hb:((P.funcs[f]?).map (·.body.isSome))=some true∧((P.funcs[f]?).map (·.name))≠some "runtime.NumGoroutine")
  (ha:(Z9 S [] args.toList).1∧(Z9 S [] args.toList).2=as1):xH P S ⟨dst,.call ⟨.value x,args,argTypes⟩,tt,pos,after,guard⟩ r:=by
 unfold xH
 simp only[hf]
 obtain⟨h1,rfl⟩:=ha
 exact⟨hb,h1,hC⟩
theorem QO [Gi] {P:Program} {S:St} {o:Oper} {c:Option Bool} {K:St→Prop}(x:AV)(hx:Wr x=true)(hv:uv o=true)(hp:c≠some false→xH P S o x)(hk:dOK S o.dst∧K (S.qJ o.dst (gv c x))):J8 P S o c K:=
 ⟨x,⟨hx,hv,hp⟩,hk⟩
attribute [go_sem] gv vY bsD bsR ze0 zoS zgq zjQ hdr List.isEmpty_cons List.isEmpty_nil uv Qk yY jt zdk VG
def qH {α:Type}(n:Nat)(c:List α):List α:=(List.replicate n c).flatten
theorem qC {α:Type}(n:Nat)(c:List α):(qH n c).length=n*c.length:=by simp[qH]
end Go.AM
end
section
namespace Go.Proofs.YthbmelihnabkaaaGreat
open Go.AM
theorem mixed:Tryz.prog.follows .mixedOrders=true:=Tryz.checked.mixed
@[go_sem] theorem ty3 : ty Tryz.prog 3 = some ⟨.int .i64, 1, 8, some [.int .i64 0]⟩ := by kernel_rfl
@[go_sem] theorem ty4 : ty Tryz.prog 4 = some ⟨.bool, 1, 1, some [.bool false]⟩ := by kernel_rfl
@[go_sem] theorem ty5 : ty Tryz.prog 5 = some ⟨.int .u8, 1, 1, some [.int .u8 0]⟩ := by kernel_rfl
@[go_sem] theorem ty9 : ty Tryz.prog 9 = some ⟨.string, 1, 16, some [.str []]⟩ := by kernel_rfl
@[go_sem] theorem ty21 : ty Tryz.prog 21 = some ⟨.int .i32, 1, 4, some [.int .i32 0]⟩ := by kernel_rfl
@[go_sem] theorem ty22 : ty Tryz.prog 22 = some ⟨.slice 21, 1, 24, some [.opq (.slice none 0 0)]⟩ := by kernel_rfl
@[go_sem] theorem ty24 : ty Tryz.prog 24 = some ⟨.slice 122, 1, 24, some [.opq (.slice none 0 0)]⟩ := by kernel_rfl
@[go_sem] theorem ty26 : ty Tryz.prog 26 = some ⟨.pointer 76, 1, 8, some [.opq (.pointer none)]⟩ := by kernel_rfl
@[go_sem] theorem ty34 : ty Tryz.prog 34 = some ⟨.pointer 98, 1, 8, some [.opq (.pointer none)]⟩ := by kernel_rfl
@[go_sem] theorem ty36 : ty Tryz.prog 36 = some ⟨.slice 22, 1, 24, some [.opq (.slice none 0 0)]⟩ := by kernel_rfl
@[go_sem] theorem ty43 : ty Tryz.prog 43 = some ⟨Tryz.t42.desc, 3, 56, some [.int .i64 0, .opq (.slice none 0 0), .opq (.slice none 0 0)]⟩ := by kernel_rfl
@[go_sem] theorem ty45 : ty Tryz.prog 45 = some ⟨Tryz.t44.desc, 4, 64, some [.int .i64 0, .opq (.slice none 0 0), .opq (.slice none 0 0), .int .i64 0]⟩ := by kernel_rfl
@[go_sem] theorem ty59 : ty Tryz.prog 59 = some ⟨.slice 3, 1, 24, some [.opq (.slice none 0 0)]⟩ := by kernel_rfl
@[go_sem] theorem ty64 : ty Tryz.prog 64 = some ⟨Tryz.t42.desc, 3, 56, some [.int .i64 0, .opq (.slice none 0 0), .opq (.slice none 0 0)]⟩ := by kernel_rfl
@[go_sem] theorem ty68 : ty Tryz.prog 68 = some ⟨.pointer 189, 1, 8, some [.opq (.pointer none)]⟩ := by kernel_rfl
@[go_sem] theorem ty70 : ty Tryz.prog 70 = some ⟨.pointer 203, 1, 8, some [.opq (.pointer none)]⟩ := by kernel_rfl
@[go_sem] theorem ty72 : ty Tryz.prog 72 = some ⟨.map 83 21, 1, 8, some [.opq (.map none)]⟩ := by kernel_rfl
@[go_sem] theorem ty73 : ty Tryz.prog 73 = some ⟨.map 21 4, 1, 8, some [.opq (.map none)]⟩ := by kernel_rfl
@[go_sem] theorem ty74 : ty Tryz.prog 74 = some ⟨.pointer 147, 1, 8, some [.opq (.pointer none)]⟩ := by kernel_rfl
@[go_sem] theorem ty76 : ty Tryz.prog 76 = some ⟨Tryz.t75.desc, 7, 56, some [.opq (.pointer none), .opq (.pointer none), .opq (.pointer none), .opq (.pointer none), .opq (.pointer none), .opq (.map none), .opq (.map none)]⟩ := by kernel_rfl
@[go_sem] theorem ty77 : ty Tryz.prog 77 = some ⟨.slice 85, 1, 24, some [.opq (.slice none 0 0)]⟩ := by kernel_rfl
@[go_sem] theorem ty78 : ty Tryz.prog 78 = some ⟨.slice 81, 1, 24, some [.opq (.slice none 0 0)]⟩ := by kernel_rfl
@[go_sem] theorem ty81 : ty Tryz.prog 81 = some ⟨Tryz.t80.desc, 4, 32, some [.int .i64 0, .int .i64 0, .int .i64 0, .int .i64 0]⟩ := by kernel_rfl
@[go_sem] theorem ty83 : ty Tryz.prog 83 = some ⟨Tryz.t82.desc, 2, 8, some [.int .i32 0, .int .i32 0]⟩ := by kernel_rfl
@[go_sem] theorem ty85 : ty Tryz.prog 85 = some ⟨Tryz.t84.desc, 4, 24, some [.int .i64 0, .int .i64 0, .int .i32 0, .int .i32 0]⟩ := by kernel_rfl
@[go_sem] theorem ty92 : ty Tryz.prog 92 = some ⟨.pointer 172, 1, 8, some [.opq (.pointer none)]⟩ := by kernel_rfl
@[go_sem] theorem ty95 : ty Tryz.prog 95 = some ⟨Tryz.t94.desc, 2, 32, some [.opq (.slice none 0 0), .int .i64 0]⟩ := by kernel_rfl
@[go_sem] theorem ty98 : ty Tryz.prog 98 = some ⟨Tryz.t97.desc, 4, 48, some [.opq (.pointer none), .opq (.pointer none), .opq (.slice none 0 0), .int .i64 0]⟩ := by kernel_rfl
@[go_sem] theorem ty100 : ty Tryz.prog 100 = some ⟨Tryz.t99.desc, 3, 24, some [.int .i64 0, .int .i64 0, .int .i64 0]⟩ := by kernel_rfl
@[go_sem] theorem ty112 : ty Tryz.prog 112 = some ⟨.slice 114, 1, 24, some [.opq (.slice none 0 0)]⟩ := by kernel_rfl
@[go_sem] theorem ty114 : ty Tryz.prog 114 = some ⟨.array 2 3, 2, 16, some [.int .i64 0, .int .i64 0]⟩ := by kernel_rfl
@[go_sem] theorem ty122 : ty Tryz.prog 122 = some ⟨Tryz.t121.desc, 5, 40, some [.int .i64 0, .int .i64 0, .int .i64 0, .int .i64 0, .int .i64 0]⟩ := by kernel_rfl
@[go_sem] theorem ty123 : ty Tryz.prog 123 = some ⟨.slice 125, 1, 24, some [.opq (.slice none 0 0)]⟩ := by kernel_rfl
@[go_sem] theorem ty125 : ty Tryz.prog 125 = some ⟨Tryz.t124.desc, 3, 24, some [.int .i64 0, .int .i64 0, .int .i64 0]⟩ := by kernel_rfl
@[go_sem] theorem ty127 : ty Tryz.prog 127 = some ⟨.array 4 3, 4, 32, some [.int .i64 0, .int .i64 0, .int .i64 0, .int .i64 0]⟩ := by kernel_rfl
@[go_sem] theorem ty128 : ty Tryz.prog 128 = some ⟨.array 4 78, 4, 96, some [.opq (.slice none 0 0), .opq (.slice none 0 0), .opq (.slice none 0 0), .opq (.slice none 0 0)]⟩ := by kernel_rfl
@[go_sem] theorem ty129 : ty Tryz.prog 129 = some ⟨.slice 139, 1, 24, some [.opq (.slice none 0 0)]⟩ := by kernel_rfl
@[go_sem] theorem ty131 : ty Tryz.prog 131 = some ⟨.slice 78, 1, 24, some [.opq (.slice none 0 0)]⟩ := by kernel_rfl
@[go_sem] theorem ty132 : ty Tryz.prog 132 = some ⟨.array 4 4, 4, 4, some [.bool false, .bool false, .bool false, .bool false]⟩ := by kernel_rfl
@[go_sem] theorem ty137 : ty Tryz.prog 137 = some ⟨Tryz.t136.desc, 4, 4, some [.bool false, .bool false, .bool false, .bool false]⟩ := by kernel_rfl
@[go_sem] theorem ty139 : ty Tryz.prog 139 = some ⟨Tryz.t138.desc, 6, 24, some [.int .i64 0, .int .i64 0, .bool false, .bool false, .bool false, .bool false]⟩ := by kernel_rfl
@[go_sem] theorem ty145 : ty Tryz.prog 145 = some ⟨.slice 156, 1, 24, some [.opq (.slice none 0 0)]⟩ := by kernel_rfl
@[go_sem] theorem ty147 : ty Tryz.prog 147 = some ⟨Tryz.t146.desc, 3, 56, some [.int .i64 0, .opq (.slice none 0 0), .opq (.slice none 0 0)]⟩ := by kernel_rfl
@[go_sem] theorem ty149 : ty Tryz.prog 149 = some ⟨.map 156 3, 1, 8, some [.opq (.map none)]⟩ := by kernel_rfl
@[go_sem] theorem ty150 : ty Tryz.prog 150 = some ⟨.map 83 3, 1, 8, some [.opq (.map none)]⟩ := by kernel_rfl
@[go_sem] theorem ty152 : ty Tryz.prog 152 = some ⟨Tryz.t151.desc, 3, 24, some [.opq (.pointer none), .opq (.map none), .opq (.map none)]⟩ := by kernel_rfl
@[go_sem] theorem ty156 : ty Tryz.prog 156 = some ⟨.array 128 83, 256, 1024, some (qH 128 [.int .i32 0, .int .i32 0])⟩ := by kernel_rfl
@[go_sem] theorem ty167 : ty Tryz.prog 167 = some ⟨Tryz.t166.desc, 3, 12, some [.int .i32 0, .int .i32 0, .int .i32 0]⟩ := by kernel_rfl
@[go_sem] theorem ty168 : ty Tryz.prog 168 = some ⟨.array 8 167, 24, 96, some [.int .i32 0, .int .i32 0, .int .i32 0, .int .i32 0, .int .i32 0, .int .i32 0, .int .i32 0, .int .i32 0, .int .i32 0, .int .i32 0, .int .i32 0, .int .i32 0, .int .i32 0, .int .i32 0, .int .i32 0, .int .i32 0, .int .i32 0, .int .i32 0, .int .i32 0, .int .i32 0, .int .i32 0, .int .i32 0, .int .i32 0, .int .i32 0]⟩ := by kernel_rfl
@[go_sem] theorem ty172 : ty Tryz.prog 172 = some ⟨Tryz.t171.desc, 3, 40, some [.opq (.slice none 0 0), .int .i64 0, .int .i64 0]⟩ := by kernel_rfl
@[go_sem] theorem ty187 : ty Tryz.prog 187 = some ⟨.slice 196, 1, 24, some [.opq (.slice none 0 0)]⟩ := by kernel_rfl
@[go_sem] theorem ty189 : ty Tryz.prog 189 = some ⟨Tryz.t188.desc, 3, 56, some [.int .i64 0, .opq (.slice none 0 0), .opq (.slice none 0 0)]⟩ := by kernel_rfl
@[go_sem] theorem ty191 : ty Tryz.prog 191 = some ⟨.map 196 3, 1, 8, some [.opq (.map none)]⟩ := by kernel_rfl
@[go_sem] theorem ty192 : ty Tryz.prog 192 = some ⟨.map 3 3, 1, 8, some [.opq (.map none)]⟩ := by kernel_rfl
@[go_sem] theorem ty194 : ty Tryz.prog 194 = some ⟨Tryz.t193.desc, 3, 24, some [.opq (.pointer none), .opq (.map none), .opq (.map none)]⟩ := by kernel_rfl
@[go_sem] theorem ty196 : ty Tryz.prog 196 = some ⟨.array 128 3, 128, 1024, some (qH 128 [.int .i64 0])⟩ := by kernel_rfl
@[go_sem] theorem ty198 : ty Tryz.prog 198 = some ⟨.map 3 4, 1, 8, some [.opq (.map none)]⟩ := by kernel_rfl
@[go_sem] theorem ty201 : ty Tryz.prog 201 = some ⟨.slice 212, 1, 24, some [.opq (.slice none 0 0)]⟩ := by kernel_rfl
@[go_sem] theorem ty203 : ty Tryz.prog 203 = some ⟨Tryz.t202.desc, 3, 56, some [.int .i64 0, .opq (.slice none 0 0), .opq (.slice none 0 0)]⟩ := by kernel_rfl
@[go_sem] theorem ty205 : ty Tryz.prog 205 = some ⟨.map 212 3, 1, 8, some [.opq (.map none)]⟩ := by kernel_rfl
@[go_sem] theorem ty206 : ty Tryz.prog 206 = some ⟨.map 137 3, 1, 8, some [.opq (.map none)]⟩ := by kernel_rfl
@[go_sem] theorem ty208 : ty Tryz.prog 208 = some ⟨Tryz.t207.desc, 3, 24, some [.opq (.pointer none), .opq (.map none), .opq (.map none)]⟩ := by kernel_rfl
@[go_sem] theorem ty212 : ty Tryz.prog 212 = some ⟨.array 128 137, 512, 512, some (qH 128 [.bool false, .bool false, .bool false, .bool false])⟩ := by kernel_rfl
@[go_sem] theorem ty216 : ty Tryz.prog 216 = some ⟨.int .u64, 1, 8, some [.int .u64 0]⟩ := by kernel_rfl
@[go_sem] theorem ty221 : ty Tryz.prog 221 = some ⟨Tryz.t220.desc, 2, 32, some [.opq (.pointer none), .opq (.slice none 0 0)]⟩ := by kernel_rfl
@[go_sem] theorem ty225 : ty Tryz.prog 225 = some ⟨Tryz.t224.desc, 5, 40, some [.bool false, .int .i64 0, .int .i64 0, .int .i64 0, .bool false]⟩ := by kernel_rfl
@[go_sem] theorem ty242 : ty Tryz.prog 242 = some ⟨.int .u64, 1, 8, some [.int .u64 0]⟩ := by kernel_rfl
@[go_sem] theorem ty252 : ty Tryz.prog 252 = some ⟨.array 2 21, 2, 8, some [.int .i32 0, .int .i32 0]⟩ := by kernel_rfl
@[go_sem] theorem ty261 : ty Tryz.prog 261 = some ⟨.array 3 21, 3, 12, some [.int .i32 0, .int .i32 0, .int .i32 0]⟩ := by kernel_rfl
@[go_sem] theorem zpr : Jh Tryz.prog 21 = some (.int .i32 0) := by kernel_rfl
@[go_sem] theorem zp4 : Jh Tryz.prog 4 = some (.bool false) := by kernel_rfl
@[go_sem] theorem zp3 : Jh Tryz.prog 3 = some (.int .i64 0) := by kernel_rfl
@[go_sem] theorem ck83 : kT Tryz.prog 83 = some [.i .i32, .i .i32] := by kernel_rfl
@[go_sem] theorem ck132 : kT Tryz.prog 132 = some [.b, .b, .b, .b] := by kernel_rfl
@[go_sem] theorem kk3 : ZZ Tryz.prog 3 = some (false, [.i .i64]) := by kernel_rfl
@[go_sem] theorem zps : ZZ Tryz.prog 21 = some (false, [.i .i32]) := by kernel_rfl
@[go_sem] theorem zpp : ZZ Tryz.prog 83 = some (true, [.i .i32, .i .i32]) := by kernel_rfl
@[go_sem] theorem zpm : ZZ Tryz.prog 137 = some (true, [.b, .b, .b, .b]) := by kernel_rfl
@[go_sem] theorem zpn : ZZ Tryz.prog 156 = some (true, qH 128 [.i .i32, .i .i32]) := WE ty156 (by kernel_rfl) (by kernel_rfl) ty83 (by decide)
@[go_sem] theorem zpo : ZZ Tryz.prog 196 = some (true, qH 128 [.i .i64]) := WE ty196 (by kernel_rfl) (by kernel_rfl) ty3 (by decide)
@[go_sem] theorem zpl : ZZ Tryz.prog 212 = some (true, qH 128 [.b, .b, .b, .b]) := WE ty212 (by kernel_rfl) (by kernel_rfl) ty137 (by decide)
attribute [go_sem] Tryz.t7 Tryz.t13 Tryz.t18 Tryz.t38 Tryz.t42 Tryz.t44 Tryz.t75 Tryz.t80 Tryz.t82 Tryz.t84 Tryz.t94 Tryz.t97 Tryz.t99 Tryz.t121 Tryz.t124 Tryz.t136 Tryz.t138 Tryz.t146 Tryz.t151 Tryz.t166 Tryz.t171 Tryz.t188 Tryz.t193 Tryz.t202 Tryz.t207 Tryz.t220 Tryz.t224 Tryz.t268 Tryz.t271 Tryz.t279
end Go.Proofs.YthbmelihnabkaaaGreat
end
section
namespace Go.AM
theorem JP.mono [Gi] {P:Program} {S:St} {f:FuncId} {args:List Operand} {dst:Option Nat} {K K':St→Prop}(hk:∀S,K S→K' S)(h:JP P S f args dst K):JP P S f args dst K':=by
 obtain⟨m,pin,R,h1,h2,h3,h4⟩:=h
 exact⟨m,pin,R,h1,h2,h3,fun x rs' hr=>hk _ (h4 x rs' hr)⟩
theorem zcN.mono [Gi] {P:Program} {S:St} {f:FuncId} {cs:List AV} {args:List Operand} {dst:Option Nat} {K K':St→Prop}(hk:∀S,K S→K' S)(h:zcN P S f cs args dst K):zcN P S f cs args dst K':=by
 obtain⟨m,pin,R,h1,h2,h3,h4⟩:=h
 exact⟨m,pin,R,h1,h2,h3,fun x rs' hr=>hk _ (h4 x rs' hr)⟩
theorem zfL [Gi] {P:Program} {S:St} {o:Oper} {K K':St→Prop}(hk:∀S,K S→K' S)(h:KC P S o K):KC P S o K':=by
 unfold KC at h⊢
 split at h
 ·split at h
  ·split at h
   ·exact⟨h.1,h.2.mono hk⟩
   ·split at h
    ·exact⟨h.1,h.2.mono hk⟩
    ·exact h.elim
  ·exact h.elim
 ·split at h
  ·exact⟨h.1,fun e=>hk _ (h.2.1 e),fun i hi=>hk _ (h.2.2 i hi)⟩
  ·exact h.elim
 ·exact h.elim
theorem zaF [Gi] {P:Program} {S:St} {o:Oper} {K K':St→Prop}(hk:∀S,K S→K' S)(h:KJ P S o K):KJ P S o K':=by
 unfold KJ at h⊢
 split at h
 ·exact⟨h.1,hk _ h.2⟩
 ·exact zfL hk h
theorem Ye [Gi] {P:Program} {S:St} {o:Oper} {c:Option Bool} {K K':St→Prop}(hk:∀S,K S→K' S)(h:xf P S o c K):xf P S o c K':=by
 unfold xf at h⊢
 split at h
 ·split at h
  ·exact⟨h.1,hk _ h.2⟩
  ·exact⟨h.1,hk _ h.2⟩
 ·split at h
  ·exact zaF hk h
  ·exact⟨fun e=>zaF hk (h.1 e),fun e=>⟨(h.2 e).1,hk _ (h.2 e).2⟩⟩
theorem um [Gi] {P:Program} {ops:Array Oper}:∀{l:List Oper} {S:St} {K K':St→Prop},(∀S,K S→K' S)→Qb P ops l S K→Qb P ops l S K'
 | [],S,K,K',hk,h=>hk _ h
 |o::l,S,K,K',hk,h=>by
  unfold Qb at h⊢
  split at h
  ·exact Ye (fun S' h'=>um hk h') h
  ·exact h.elim
theorem XZ [Gi] {P:Program} {ops:Array Oper}:∀{l:List Oper} {S:St} {K K':St→Prop},(∀S,K S→K' S)→ub P ops l S K→ub P ops l S K'
 | [],S,K,K',hk,h=>hk _ h
 |o::l,S,K,K',hk,h=>by
  unfold ub at h⊢
  split
  ·rename_i hh
   rw[if_pos hh]at h
   split at h
   ·obtain⟨x,h1,h2,h3⟩:=h
    exact⟨x,h1,h2,XZ hk h3⟩
   ·exact h.elim
  ·rename_i hh
   rw[if_neg hh]at h
   exact um hk h
mutual
theorem zaD [Gi] {P:Program} {ops:Array Oper} {K K':St→Prop}(hk:∀S,K S→K' S):∀(t:OT) {S:St},kE P ops K t S→kE P ops K' t S
 |.mk [],S,h=>by simp only[kE]at h⊢;exact hk _ h
 |.mk (x::l),S,h=>by simp only[kE]at h⊢;exact YS hk (x::l) h
 |.now i c t,S,h=>by
  simp only[kE]at h⊢
  unfold zjm at h⊢
  split
  ·rename_i o ho
   simp only[ho]at h
   unfold ziX at h⊢
   split
   ·rename_i r hr
    simp only[hr]at h
    exact⟨h.1,h.2.1,zaD hk t h.2.2⟩
   ·rename_i hr
    simp only[hr]at h
  ·rename_i ho
   simp only[ho]at h
theorem YS [Gi] {P:Program} {ops:Array Oper} {K K':St→Prop}(hk:∀S,K S→K' S):∀(l:List (Nat×OT)) {S:St},yO P ops K l S→yO P ops K' l S
 | [],S,_=>by simp only[yO]
 |(i,t)::l,S,h=>by
  simp only[yO]at h⊢
  refine⟨?_,YS hk l h.2⟩
  have h1:=h.1
  cases ho:ops[i]? with
  |none=>rw[ho]at h1;exact h1.elim
  |some o=>
   rw[ho]at h1
   simp only at h1⊢
   cases hg:qT ops S o with
   |none=>rw[hg]at h1;exact h1.2.elim
   |some c=>rw[hg]at h1;exact⟨h1.1,Ye (fun S' h'=>zaD hk t h') h1.2⟩
end
theorem jx [Gi] {P:Program} {D:List Nat}:∀(c:Code) {Q Q':Exit→St→Prop} {S:St},(∀e S,Q e S→Q' e S)→wpA P D c Q S→wpA P D c Q' S
 |.skip,Q,Q',S,hq,h=>by simp only[wpA]at h⊢;exact hq _ _ h
 |.region id ops draw,Q,Q',S,hq,h=>by
  simp only[wpA]at h⊢
  split
  ·rename_i hc;rw[if_pos hc]at h;exact zeQ (fun S h=>hq _ _ h) h
  rename_i hl0
  rw[if_neg hl0]at h
  split
  ·rename_i hc;rw[if_pos hc]at h;exact zeJ (fun S h=>hq _ _ h) h
  ·rename_i hl
   rw[if_neg hl]at h
   split
   ·rename_i hc;rw[if_pos hc]at h;exact XZ (fun S h=>hq _ _ h) h
   ·rename_i hc;rw[if_neg hc]at h;exact um (fun S h=>hq _ _ h) h
 |.seq x y,Q,Q',S,hq,h=>by
  simp only[wpA]at h⊢
  refine jx x (fun e S' h'=>?_) h
  cases e with
  |normal=>exact jx y hq h'
  |_=>exact hq _ _ h'
 |.cond c x y,Q,Q',S,hq,h=>by
  simp only[wpA]at h⊢
  split at h
  ·exact⟨fun e=>jx x hq (h.1 e),fun e=>jx y hq (h.2 e)⟩
  ·exact h.elim
 |.block id c,Q,Q',S,hq,h=>by
  simp only[wpA]at h⊢
  refine jx c (fun e S' h'=>?_) h
  cases e with
  |exit i=>
   simp only[]at h'⊢
   split
   ·rename_i hi;rw[if_pos hi]at h';exact hq _ _ h'
   ·rename_i hi;rw[if_neg hi]at h';exact hq _ _ h'
  |_=>exact hq _ _ h'
 |.loop c,Q,Q',S,hq,h=>by
  simp only[wpA]at h⊢
  obtain⟨ι,st,m,h0,hr⟩:=h
  refine⟨ι,st,m,h0,fun i=>jx c (fun e S' h'=>?_) (hr i)⟩
  cases e with
  |normal=>exact h'
  |_=>exact hq _ _ h'
 |.exit id,Q,Q',S,hq,h=>by simp only[wpA]at h⊢;exact hq _ _ h
 |.ret,Q,Q',S,hq,h=>by simp only[wpA]at h⊢;exact hq _ _ h
 |.rangeFunc ..,Q,Q',S,hq,h=>by simp only[wpA]at h
 |.scope _,Q,Q',S,hq,h=>by simp only[wpA]at h
 |.label _,Q,Q',S,hq,h=>by simp only[wpA]at h
 |.goto _,Q,Q',S,hq,h=>by simp only[wpA]at h
 |.refuse _,Q,Q',S,hq,h=>by simp only[wpA]at h
def zlT {ι:Type}(st:ι→St)(Q:Exit→St→Prop):Exit→St→Prop:=fun e S=>match e with|.normal=>∃i,S=st i|e=>Q e S
@[go_sem] theorem zmB {ι : Type} {st : ι → St} {Q : Exit → St → Prop} {S : St} {k : Nat} : zlT st Q (.exit k) S = Q (.exit k) S := rfl
@[go_sem] theorem znM {ι : Type} {st : ι → St} {Q : Exit → St → Prop} {S : St} : zlT st Q .ret S = Q .ret S := rfl
theorem zj:∀l:List AV,leL l l
 | []=>trivial
 |x::l=>⟨zj5 x,zj l⟩
attribute [go_sem] has
end Go.AM
end
