/- A part of the proof of this seat's statements, by an abstract machine: what each operation does to values, and what the law's functions compute. Conditions: as each law says. -/
import Derived.Test.YthbmelihnabkaaaGreatT15
import Derived.KernelRfl
import Derived.Test.YthbmelihnabkaaaGreatChecked
import Derived.Eval
section
namespace Go.AM
def zmq [Gi](P:Program)(ops:Array Oper)(rest:List Oper)(K:St→Prop):St→Prop:=fun S=>Z0 P ops rest S K
def zeF [Gi](P:Program)(D:List Nat)(y:Code)(Q:Exit→St→Prop):Exit→St→Prop:=fun e S=>match e with|.normal=>wpA P D y Q S|e=>Q e S
def zh4(id:Nat)(Q:Exit→St→Prop):Exit→St→Prop:=fun e S=>match e with|.exit i=>if i=id then Q .normal S else Q (.exit i) S|e=>Q e S
def Wc [Gi](P:Program)(S:St)(o:Oper)(K:St→Prop):Option (Option Bool)→Prop
 |some c=>y3 P S o c K
 |none=>False
def U3 [Gi](P:Program)(S:St)(o:Oper)(K:St→Prop)(c:Option Bool):Option PR→Prop
 |some r=>match c with
  |none=>(r.1∧dOK S o.dst)∧K (S.qH o.dst r.2)
  |some c=>((c=true→r.1)∧dOK S o.dst)∧K (S.qH o.dst (.gd c r.2))
 |none=>match c with
  |none=>Km P S o K
  |some c=>(c=true→Km P S o K)∧(c=false→dOK S o.dst∧K (S.qH o.dst (.gd false .zX)))
def Y5 [Gi](P:Program)(S:St)(o:Oper)(K:St→Prop):Option (Prop×St)→Prop
 |some r=>r.1∧K r.2
 |none=>U0 P S o K
def vd [Gi](P:Program)(D:List Nat)(x y:Code)(Q:Exit→St→Prop)(S:St):AV→Prop
 |.p (.bool b)=>(b=true→wpA P D x Q S)∧(b=false→wpA P D y Q S)
 |_=>False
section
variable {P:Program} {D:List Nat} {ops:Array Oper} {S:St} {K:St→Prop} {Q:Exit→St→Prop}
@[go_sem] theorem zoe [Gi] : Z0 P ops [] S K = K S := _root_.id rfl
@[go_sem] theorem zni [Gi] {o : Oper} {rest : List Oper} : Z0 P ops (o :: rest) S K = Wc P S o (zmq P ops rest K) (qN ops S o) := by
 simp only[Z0];unfold Wc;split<;>simp_all;rfl
@[go_sem] theorem zos [Gi] {rest : List Oper} : zmq P ops rest K S = Z0 P ops rest S K := _root_.id rfl
@[go_sem] theorem zlI [Gi] {o : Oper} {c : Option Bool} : Wc P S o K (some c) = U3 P S o K c (Zq P S o) := by
 unfold Wc y3 U3;rfl
@[go_sem] theorem zl6 [Gi] {o : Oper} {c : Prop} {x : AV} : U3 P S o K none (some (c, x)) = ((c ∧ dOK S o.dst) ∧ K (S.qH o.dst x)) := rfl
@[go_sem] theorem znJ [Gi] {o : Oper} {b : Bool} {c : Prop} {x : AV} : U3 P S o K (some b) (some (c, x)) = (((b = true → c) ∧ dOK S o.dst) ∧ K (S.qH o.dst (.gd b x))) := rfl
@[go_sem] theorem zno [Gi] {o : Oper} : U3 P S o K none none = Y5 P S o K (zbT P S o) := by
 unfold U3 Km Y5;rfl
@[go_sem] theorem zlK [Gi] {o : Oper} {b : Bool} : U3 P S o K (some b) none = ((b = true → Y5 P S o K (zbT P S o)) ∧ (b = false → dOK S o.dst ∧ K (S.qH o.dst (.gd false .zX)))) := by
 unfold U3 Km Y5;rfl
@[go_sem] theorem zmN [Gi] {o : Oper} {c : Prop} {S' : St} : Y5 P S o K (some (c, S')) = (c ∧ K S') := rfl
@[go_sem] theorem zmu [Gi] {o : Oper} : Y5 P S o K none = U0 P S o K := rfl
@[go_sem] theorem znO [Gi] : wpA P D .skip Q S = Q .normal S := _root_.id rfl
@[go_sem] theorem zmh [Gi] {id : Nat} {l : List Oper} : wpA P D (.region id l.toArray false) Q S = Z0 P l.toArray l { S with ts := [] } (Q .normal) := _root_.id rfl
def zcv [Gi](P:Program)(l:List Oper)(K:St→Prop)(S:St):Bool→Prop
 |true=>uA P l.toArray l (WM P l S) K
 |false=>Z0 P l.toArray l S K
def zb7 [Gi](P:Program)(l:List Oper)(K:St→Prop)(S:St):Bool→Bool→Prop
 |true,_=>Vm P l.toArray S K
 |false,c=>zcv P l K S c
def XB [Gi](P:Program)(l:List Oper)(K:St→Prop)(S:St):Bool→Bool→Bool→Prop
 |true,_,_=>zfR P l.toArray K S
 |false,b,c=>zb7 P l K S b c
@[go_sem] theorem zlv [Gi] {id : Nat} {l : List Oper} : wpA P D (.region id l.toArray true) Q S = XB P l (Q .normal) { S with ts := [] } (D.contains (id + 200000)) (D.contains (id + 100000)) (D.contains id) := by
 unfold XB zb7 zcv
 simp only[wpA,Bool.true_and]
 cases D.contains (id+200000)<;>cases D.contains (id+100000)<;>cases D.contains id<;>rfl
@[go_sem] theorem zlr [Gi] {l : List Oper} {K : St → Prop} {b c : Bool} : XB P l K S false b c = zb7 P l K S b c := _root_.id rfl
theorem Zc [Gi] {l:List Oper} {K:St→Prop} {b c:Bool}(t:OT)(h1:(Region.noSelect l.toArray&&okT l.toArray l.toArray.size (Array.replicate l.toArray.size false) t)=true)(h2:jL P l.toArray K t S):XB P l K S true b c:=⟨t,K,h1,h2,fun _ h=>.inl h⟩
theorem zel [Gi] {l:List Oper} {K:St→Prop} {b c:Bool}(t:OT)(S1:St)(h1:(Region.noSelect l.toArray&&okT l.toArray l.toArray.size (Array.replicate l.toArray.size false) t)=true)(h2:jL P l.toArray (fun S'=>LeS S' S1) t S)(h3:K S1):XB P l K S true b c:=⟨t,_,h1,h2,fun _ h=>.inr ⟨S1,.inl h,h3⟩⟩
def stepT [Gi](P:Program)(ops:Array Oper)(S:St)(K:St→Prop):Option Oper→Prop
 |some o=>zgX (Zq P S o) (za9 o)∧Wc P S o K (qN ops S o)
 |none=>False
def zju [Gi](P:Program)(ops:Array Oper)(K:St→Prop)(t:OT):St→Prop:=fun S=>jL P ops K t S
@[go_sem] theorem znp [Gi] {ops : Array Oper} {K : St → Prop} {t : OT} : zju P ops K t S = jL P ops K t S := _root_.id rfl
@[go_sem] theorem zn3 [Gi] {ops : Array Oper} {K : St → Prop} {i c : Nat} {t : OT} : jL P ops K (.now i c t) S = zh6 P S c (zju P ops K t) ops[i]? := by simp only [jL]; rfl
@[go_sem] theorem znu {K : St → Prop} {c : Nat} {o : Oper} : zh6 P S c K (some o) = zj7 P S o c K (Zq P S o) := rfl
@[go_sem] theorem zns {K : St → Prop} {c : Nat} {o : Oper} {p : Prop} {x : AV} : zj7 P S o c K (some (p, x)) = ((p ∧ dOK S o.dst) ∧ zgq c (vf S o x) (WS o || KQ x) ∧ K (S.qH o.dst x)) := rfl
@[go_sem] theorem zoX {a b : Bool} : zgq 0 a b = True := rfl
@[go_sem] theorem zoW {a b : Bool} : zgq 1 a b = ((a || b) = true) := rfl
@[go_sem] theorem zoZ {a b : Bool} : zgq 2 a b = (a = true) := rfl
@[go_sem] theorem znS [Gi] {ops : Array Oper} {K : St → Prop} : jL P ops K (.mk []) S = K S := by simp only [jL]
@[go_sem] theorem znc [Gi] {ops : Array Oper} {K : St → Prop} {x : Nat × OT} {l : List (Nat × OT)} : jL P ops K (.mk (x :: l)) S = yu P ops K (x :: l) S := by simp only [jL]
@[go_sem] theorem znb [Gi] {ops : Array Oper} {K : St → Prop} : yu P ops K [] S = True := by simp only [yu]
@[go_sem] theorem zl3 [Gi] {ops : Array Oper} {K : St → Prop} {i : Nat} {t : OT} {l : List (Nat × OT)} : yu P ops K ((i, t) :: l) S = (stepT P ops S (zju P ops K t) ops[i]? ∧ yu P ops K l S) := by
 simp only[yu]
 cases ops[i]? with
 |none=>rfl
 |some o=>simp only[stepT,Wc];cases qN ops S o<;>rfl
@[go_sem] theorem zmw [Gi] {ops : Array Oper} {K : St → Prop} {o : Oper} : stepT P ops S K (some o) = (zgX (Zq P S o) (za9 o) ∧ Wc P S o K (qN ops S o)) := rfl
@[go_sem] theorem zmI {o : Option PR} : zgX o false = True := rfl
@[go_sem] theorem zmm [Gi] {l : List Oper} {c : Bool} : zb7 P l K S true c = Vm P l.toArray S K := _root_.id rfl
@[go_sem] theorem zlu [Gi] {l : List Oper} {c : Bool} : zb7 P l K S false c = zcv P l K S c := _root_.id rfl
def zjj(P:Program)(t:Tok)(ov:Nat)(rest:List Oper)(K:St→Prop):Option (Prop×St)→Prop
 |some r=>r.1∧yP P t ov rest r.2 K
 |none=>False
def za2(P:Program)(t:Tok)(ov:Nat)(S:St)(o:Oper)(rest:List Oper)(K:St→Prop):Option PR→Prop
 |some r=>(r.1∧(Ua o || KQ r.2)=true∧dOK S o.dst)∧opsL P t ov rest (S.qH o.dst r.2) K
 |none=>False
def zfw(P:Program)(t:Tok)(ov:Nat)(S:St)(o:Oper)(rest:List Oper)(K:St→Prop):Bool→Prop
 |true=>za2 P t ov S o rest K (Zq P (WG t S) o)
 |false=>yP P t ov (o::rest) S K
@[go_sem] theorem zoq {t : Tok} {ov : Nat} : opsL P t ov [] S K = K S := rfl
@[go_sem] theorem znm {t : Tok} {ov : Nat} {o : Oper} {rest : List Oper} : opsL P t ov (o :: rest) S K = zfw P t ov S o rest K (Z3 o) := by
 unfold zfw za2
 simp only[opsL]
 cases Z3 o
 ·rfl
 ·simp only[if_true]
  cases Zq P (WG t S) o<;>rfl
@[go_sem] theorem zm9 {t : Tok} {ov : Nat} : yP P t ov [] S K = K S := rfl
@[go_sem] theorem zmj {t : Tok} {ov : Nat} {o : Oper} {rest : List Oper} : yP P t ov (o :: rest) S K = zjj P t ov rest K (zce P t ov S o) := by
 unfold zjj
 simp only[yP]
 cases zce P t ov S o<;>rfl
@[go_sem] theorem zm5 {t : Tok} {ov : Nat} {o : Oper} {rest : List Oper} : zfw P t ov S o rest K true = za2 P t ov S o rest K (Zq P (WG t S) o) := rfl
@[go_sem] theorem zlD {t : Tok} {ov : Nat} {o : Oper} {rest : List Oper} : zfw P t ov S o rest K false = yP P t ov (o :: rest) S K := rfl
@[go_sem] theorem zlq {t : Tok} {ov : Nat} {o : Oper} {rest : List Oper} {r : PR} : za2 P t ov S o rest K (some r) = ((r.1 ∧ (Ua o || KQ r.2) = true ∧ dOK S o.dst) ∧ opsL P t ov rest (S.qH o.dst r.2) K) := rfl
@[go_sem] theorem zl9 {t : Tok} {ov : Nat} {rest : List Oper} {r : Prop × St} : zjj P t ov rest K (some r) = (r.1 ∧ yP P t ov rest r.2 K) := rfl
attribute [go_sem] vf KR za9 WS
attribute [go_sem] WI Ua KQ zcs zjr WG zce Vm
@[go_sem] theorem zmL [Gi] {l : List Oper} : zcv P l K S true = uA P l.toArray l (WM P l S) K := _root_.id rfl
@[go_sem] theorem zlJ [Gi] {l : List Oper} : zcv P l K S false = Z0 P l.toArray l S K := _root_.id rfl
def ziq [Gi](P:Program)(ops:Array Oper)(rest:List Oper)(K:St→Prop):St→Prop:=fun S=>uA P ops rest S K
@[go_sem] theorem znf [Gi] {rest : List Oper} : ziq P ops rest K S = uA P ops rest S K := _root_.id rfl
def JD [Gi](P:Program)(S:St)(o:Oper)(c:Option Bool)(K:St→Prop):Prop:=∃x,(Ww x=true∧ud o=true∧(c≠some false→xp P S o x))∧dOK S o.dst∧K (S.qH o.dst (gv c x))
def Xg [Gi](P:Program)(S:St)(o:Oper)(K:St→Prop)(c:Option Bool):Option PR→Prop
 |some r=>(c≠some false→r.1)∧dOK S o.dst∧K (S.qH o.dst (gv c r.2))
 |none=>JD P S o c K
def X6 [Gi](P:Program)(S:St)(o:Oper)(K:St→Prop)(c:Option Bool):Option PR→Prop
 |some r=>(c≠some false→r.1)∧dOK S o.dst∧K (S.qH o.dst (gv c r.2))
 |none=>Xg P S o K c (bsD P S o)
def zca [Gi](P:Program)(S:St)(o:Oper)(K:St→Prop)(c:Option Bool):Option (Nat×List AV)→Prop
 |some (d,cs)=>(c=none∧S.pin.contains [d]=false∧zC S.rs [d]=some cs)∧dOK S o.dst∧K (S.qH o.dst (.lp [d] 0))
 |none=>X6 P S o K c (vj P S o)
def zfD [Gi](P:Program)(S:St)(o:Oper)(K:St→Prop):Option (Option Bool)→Prop
 |some c=>zca P S o K c (Q6 P o)
 |none=>False
def zgf [Gi](P:Program)(ops:Array Oper)(S:St)(o:Oper)(rest:List Oper)(K:St→Prop):Bool→Prop
 |true=>zfD P S o (ziq P ops rest K) (qN ops S o)
 |false=>Z0 P ops (o::rest) S K
@[go_sem] theorem znn [Gi] {o : Oper} {rest : List Oper} : uA P ops (o :: rest) S K = zgf P ops S o rest K (hdr o rest) := by
 unfold uA zgf
 cases hdr o rest
 ·simp
 ·simp only[if_true]
  unfold zfD
  cases qN ops S o with
  |none=>rfl
  |some c=>
   simp only[]
   unfold zca WC
   cases hz:Q6 P o with
   |some dc=>
    obtain⟨d,cs⟩:=dc
    simp only[]
    refine propext ⟨?_,?_⟩
    ·rintro⟨x,⟨rfl,rfl,h1,h2⟩,h3,h4⟩;exact⟨⟨rfl,h1,h2⟩,h3,h4⟩
    ·rintro⟨⟨rfl,h1,h2⟩,h3,h4⟩;exact⟨_,⟨rfl,rfl,h1,h2⟩,h3,h4⟩
   |none=>
    simp only[]
    unfold X6
    cases hp:vj P S o with
    |none=>
     simp only[]
     unfold Xg
     cases hb:bsD P S o with
     |none=>simp only[];unfold JD;rfl
     |some r=>
      simp only[]
      refine propext ⟨?_,?_⟩
      ·rintro⟨x,⟨rfl,h1⟩,h2,h3⟩;exact⟨h1,h2,h3⟩
      ·rintro⟨h1,h2,h3⟩;exact⟨_,⟨rfl,h1⟩,h2,h3⟩
    |some r=>
     simp only[]
     refine propext ⟨?_,?_⟩
     ·rintro⟨x,⟨rfl,h1⟩,h2,h3⟩;exact⟨h1,h2,h3⟩
     ·rintro⟨h1,h2,h3⟩;exact⟨_,⟨rfl,h1⟩,h2,h3⟩
@[go_sem] theorem zlP [Gi] {o : Oper} {rest : List Oper} : zgf P ops S o rest K true = zfD P S o (ziq P ops rest K) (qN ops S o) := rfl
@[go_sem] theorem zlA [Gi] {o : Oper} {rest : List Oper} : zgf P ops S o rest K false = Z0 P ops (o :: rest) S K := rfl
@[go_sem] theorem zmg [Gi] {o : Oper} {c : Option Bool} : zfD P S o K (some c) = zca P S o K c (Q6 P o) := rfl
@[go_sem] theorem zmX [Gi] {o : Oper} {c : Option Bool} : zca P S o K c none = X6 P S o K c (vj P S o) := rfl
@[go_sem] theorem zmE [Gi] {o : Oper} {c : Option Bool} {d : Nat} {cs : List AV} : zca P S o K c (some (d, cs)) = ((c = none ∧ S.pin.contains [d] = false ∧ zC S.rs [d] = some cs) ∧ dOK S o.dst ∧ K (S.qH o.dst (.lp [d] 0))) := rfl
@[go_sem] theorem zlY [Gi] {o : Oper} {p : Prop} {x : AV} : X6 P S o K none (some (p, x)) = (p ∧ dOK S o.dst ∧ K (S.qH o.dst x)) := by simp [X6, gv]
@[go_sem] theorem zlL [Gi] {o : Oper} {c : Option Bool} : X6 P S o K c none = Xg P S o K c (bsD P S o) := rfl
@[go_sem] theorem zmF [Gi] {o : Oper} {c : Option Bool} : Xg P S o K c none = JD P S o c K := rfl
@[go_sem] theorem zmi [Gi] {o : Oper} {p : Prop} {x : AV} : Xg P S o K none (some (p, x)) = (p ∧ dOK S o.dst ∧ K (S.qH o.dst x)) := by simp [Xg, gv]
@[go_sem] theorem zbi [Gi] {x y : Code} : wpA P D (.seq x y) Q S = wpA P D x (zeF P D y Q) S := _root_.id rfl
@[go_sem] theorem znE [Gi] {c : Operand} {x y : Code} : wpA P D (.cond c x y) Q S = vd P D x y Q S (S.ev c) := _root_.id rfl
@[go_sem] theorem znd [Gi] {id : Nat} {c : Code} : wpA P D (.block id c) Q S = wpA P D c (zh4 id Q) S := _root_.id rfl
@[go_sem] theorem zoo [Gi] {id : Nat} : wpA P D (.exit id) Q S = Q (.exit id) S := _root_.id rfl
@[go_sem] theorem zoC [Gi] : wpA P D .ret Q S = Q .ret S := _root_.id rfl
@[go_sem] theorem zlT [Gi] {x y : Code} : vd P D x y Q S (.p (.bool true)) = wpA P D x Q S := by simp [vd]
@[go_sem] theorem zlo [Gi] {x y : Code} : vd P D x y Q S (.p (.bool false)) = wpA P D y Q S := by simp [vd]
theorem qj [Gi] {x y:Code} {b:Bool}(h1:b=true→wpA P D x Q S)(h2:b=false→wpA P D y Q S):vd P D x y Q S (.p (.bool b)):=⟨h1,h2⟩
theorem zr [Gi] {x y:Code} {p:Prop}[Decidable p](h1:p→wpA P D x Q S)(h2:¬p→wpA P D y Q S):vd P D x y Q S (.p (.bool (decide p))):=⟨fun h=>h1 (of_decide_eq_true h),fun h=>h2 (of_decide_eq_false h)⟩
theorem xJ [Gi] {x y:Code} {p:Prop}[Decidable p](h1:¬p→wpA P D x Q S)(h2:p→wpA P D y Q S):vd P D x y Q S (.p (.bool (!decide p))):=⟨fun h=>h1 (by simpa using h),fun h=>h2 (by simpa using h)⟩
@[go_sem] theorem zde [Gi] {y : Code} : zeF P D y Q .normal S = wpA P D y Q S := _root_.id rfl
@[go_sem] theorem znk [Gi] {y : Code} {i : Nat} : zeF P D y Q (.exit i) S = Q (.exit i) S := _root_.id rfl
@[go_sem] theorem zog [Gi] {y : Code} : zeF P D y Q .ret S = Q .ret S := _root_.id rfl
@[go_sem] theorem zlp {id : Nat} : zh4 id Q .normal S = Q .normal S := rfl
@[go_sem] theorem znl {id i : Nat} : zh4 id Q (.exit i) S = if i = id then Q .normal S else Q (.exit i) S := rfl
@[go_sem] theorem znY {id : Nat} : zh4 id Q .ret S = Q .ret S := rfl
end
def UP {ι:Type}(inv:ι→Prop)(st:ι→St)(m:ι→Nat)(i:ι)(Q:Exit→St→Prop):Exit→St→Prop:=fun e S=>match e with|.normal=>∃j:{i:ι//inv i},LeR S (st j.1)∧m j.1<m i|e=>Q e S
@[go_sem] theorem zmT {ι : Type} {inv : ι → Prop} {st : ι → St} {m : ι → Nat} {i : ι} {Q : Exit → St → Prop} {S : St} {k : Nat} : UP inv st m i Q (.exit k) S = Q (.exit k) S := rfl
@[go_sem] theorem znw {ι : Type} {inv : ι → Prop} {st : ι → St} {m : ι → Nat} {i : ι} {Q : Exit → St → Prop} {S : St} : UP inv st m i Q .ret S = Q .ret S := rfl
theorem zf {ι:Type} {inv:ι→Prop} {st:ι→St} {m:ι→Nat} {i:ι} {Q:Exit→St→Prop} {S:St}(j:ι)(h1:inv j)(h2:LeS S (st j))(h3:m j<m i):UP inv st m i Q .normal S:=⟨⟨j,h1⟩,.inl h2,h3⟩
theorem xa {ι:Type} {inv:ι→Prop} {st:ι→St} {m:ι→Nat} {i:ι} {Q:Exit→St→Prop} {S:St}(j:ι)(mm:List (Tok×Tok))(h1:inv j)(h2:(okM 1000000 mm=true∧S.pin.all (fun t=>inM mm t==some t)=true)∧LeS (zb8 S mm) (st j))(h3:m j<m i):UP inv st m i Q .normal S:=⟨⟨j,h1⟩,.inr ⟨mm,h2.1.1,h2.1.2,h2.2⟩,h3⟩
theorem xE [Gi] {P:Program} {D:List Nat} {c:Code} {Q:Exit→St→Prop} {S:St} {ι:Type}(inv:ι→Prop)(st:ι→St)(m:ι→Nat)(i:ι)(hi:inv i)(h0:LeS S (st i))(h:∀i,inv i→wpA P D c (UP inv st m i Q) (st i)):wpA P D (.loop c) Q S:=
 ⟨{i:ι//inv i},fun i=>st i.1,fun i=>m i.1,⟨⟨i,hi⟩,h0⟩,fun i=>h i.1 i.2⟩
theorem zq {α:Type}(f:α→PV)(l:List α)(n:Nat)(h:n<l.length):elemAt (l.map f) n=f l[n]:=by simp[elemAt,h]
theorem ziT(x:AV):leA x x:=.inl rfl
theorem zg {P:Program} {ts:List (Nat×Option TypeId)} {R:AV→List (Tok×List AV)→Prop} {S:St}(x:AV)(hp:S.pin=[])(hx:(zd P S ts).1∧leT ((zd P S ts).2.upd (AM.fil (fun _=>false) ftt)) x)(hR:R x []):uP P [] ts R S:=by
 have e:(fun t:Tok=>([]:List Tok).contains t)=fun _=>false:=by funext t;simp
 refine⟨[],x,⟨hp,by rw[hp];rfl⟩,by rw[e];exact hx,?_⟩
 have:∀l:List (Tok×List AV),Ka [] l=[]:=fun l=>by simp[Ka]
 rw[this];exact hR
@[go_sem] theorem znj {P : Program} {pin : List Tok} {ts : List (Nat × Option TypeId)} {R : AV → List (Tok × List AV) → Prop} {S : St} : vB P pin ts R .ret S = uP P pin ts R S := _root_.id rfl
@[go_sem] theorem zlg {P : Program} {pin : List Tok} {ts : List (Nat × Option TypeId)} {R : AV → List (Tok × List AV) → Prop} {S : St} : vB P pin ts R .normal S = uP P pin ts R S := _root_.id rfl
theorem wrap64 [Gi] {x:Int}(h1: -9223372036854775808≤x)(h2:x≤9223372036854775807):IntKind.i64.wrap x=x:=by
 simp only[IntKind.wrap,IntKind.signed,IntKind.bits]
 simp
 omega
attribute [go_sem] qN zbh Option.map_some Option.map_none zdb Uy okC eqC zjL ziD zjo zhB zbK zaV zfV zjM KU Ve zdm zjU WE y8 vZ V6 V0 V4 St.itz itz yR W0 Z9 uQ sbD J2 St.fz fz fz1 Zq zbT un1 un2 unG St.ev St.get St.set St.kept look zbo zC jA qp St.qH dOK k8 zn6 Z4 x9
attribute [go_sem] zgr zcf zcw zcl vz Uc zaW ptrEq xS Vw KF zag qt vu wZ zaI Wt bad
attribute [go_sem] zjV zhv VL uc zcU VU unA zdy WD UJ jU zdD jo jl kZ zay Vr uK K6 JU vN zaz sliceB JK zii zeU Vv wy wy.sl Option.bind_some Option.bind_none
attribute [go_sem] Uj ZK Wn zk6 Q5 xy toP zjt zbZ PV.cells PV.one PV.fits VH Z5 zjv vO Vc Yu yI VP Q0 z6 zeM WV zle ziM kB sizedB zd8
attribute [go_sem] bzC wQ zb8 ziL um Vp zm1 zh0 Jz Q1 yG yX QQ vD Qv U0 ZX zdM AV.ren K7 yF inM kQ okM Qm je jc JL Ki ve ze3 vA Us jX xe
attribute [go_sem] St.fil AV.upd fil zw Zp ftt
theorem zc [Gi] {P:Program} {S:St} {f:FuncId} {args:List Operand} {dst:Option Nat} {K:St→Prop}(m:List (Tok×Tok)) {pin:List Tok} {as1:List AV} {rs:List (Tok×List AV)} {R:AV→List (Tok×List AV)→Prop}(hC:CR P f pin as1 rs R)
  (hm:okM (dst.getD S.n) m=true∧S.pin.all (je (dst.getD S.n) m pin)=true∧dOK S dst) (ha:(ZX S m args).1∧(ZX S m args).2=as1) (hr:Qm S m m=rs)
  (hk:∀x rs',R x rs'→K ((ve S (dst.getD S.n) m pin rs').qH dst (x.ren fun u=>some (kQ (dst.getD S.n) m u)))):JN P S f args dst K:=by
 subst hr
 obtain⟨ha,rfl⟩:=ha
 exact⟨m,pin,R,hm,ha,hC,hk⟩
theorem WL [Gi] {P:Program} {S:St} {f:FuncId} {cs:List AV} {args:List Operand} {dst:Option Nat} {K:St→Prop}(m:List (Tok×Tok)) {pin:List Tok} {as1:List AV} {rs:List (Tok×List AV)} {R:AV→List (Tok×List AV)→Prop}(hC:CR P f pin as1 rs R)
  (hm:okM (dst.getD S.n) m=true∧S.pin.all (je (dst.getD S.n) m pin)=true∧dOK S dst) (ha:(ZX S m args).1∧(ZX S m args).2++cs.map (zdM m)=as1) (hr:Qm S m m=rs)
  (hk:∀x rs',R x rs'→K ((ve S (dst.getD S.n) m pin rs').qH dst (x.ren fun u=>some (kQ (dst.getD S.n) m u)))):zcD P S f cs args dst K:=by
 subst hr
 obtain⟨ha,rfl⟩:=ha
 exact⟨m,pin,R,hm,ha,hC,hk⟩
theorem zi {P:Program} {pin:List Tok} {ts:List (Nat×Option TypeId)} {R:AV→List (Tok×List AV)→Prop} {S:St}(kr:List Tok)(x:AV)(hp:S.pin=pin∧pin.all (fun t=>kr.contains t)=true)(hx:(zd P S ts).1∧leT ((zd P S ts).2.upd (AM.fil (fun t=>kr.contains t) ftt)) x)(hR:R x (Ka kr (S.fil (fun t=>kr.contains t) ftt).rs)):uP P pin ts R S:=by
 obtain⟨rfl,hp⟩:=hp
 exact⟨kr,x,⟨rfl,hp⟩,hx,hR⟩
attribute [go_sem] Ka List.getElem?_cons_zero
def St.ofR(rs:List (Tok×List AV)):St:={n:=0,nv:=0,vs:=[],ts:=[],rs:=rs}
theorem GS.ZZ [Gi] {g:Gh} {w:World} {rs:List (Tok×List AV)}(h:GS g w rs) {d:Nat} {m:List (Tok×Tok)}(ok:okM d m=true):GS (g.ZZ m) w (Qm (St.ofR rs) m m):=by
 refine⟨fun b u hk=>?_,fun b b' u hk hk'=>?_,fun b b' u hk hk'=>?_,fun b hb=>h.own b (fun e=>hb ?_),h.frb,fun b arr e=>⟨by show(g.K b).ren _=.prot;rw[(h.gl b arr e).1];rfl,(h.gl b arr e).2⟩⟩
 ·obtain⟨t,hk,hu⟩:=Kd.Qb.1 hk
  obtain⟨cs,hl,h0,arr,T,hb,hle,hc⟩:=h.roots b t hk
  refine⟨_,vw (S:=St.ofR rs) (Qr ok hu) hl,h0,arr,T,hb,by simpa using hle,fun j x hj=>?_⟩
  simp only[List.getElem?_map,Option.map_eq_some_iff]at hj
  obtain⟨y,hy,rfl⟩:=hj
  obtain⟨v,hv,h1,r⟩:=hc j y hy
  exact⟨v,hv,h1,zb.ren (Ren.ZZ g m) _ _ r⟩
 ·obtain⟨t,hk,hu⟩:=Kd.Qb.1 hk
  obtain⟨t',hk',hu'⟩:=Kd.Qb.1 hk'
  have e:=Qr ok hu
  rw[Qr ok hu']at e;injection e with e;subst e
  exact h.ur b b' _ hk hk'
 ·obtain⟨t,hk,hu⟩:=Kd.xR.1 hk
  obtain⟨t',hk',hu'⟩:=Kd.xR.1 hk'
  have e:=Qr ok hu
  rw[Qr ok hu']at e;injection e with e;subst e
  exact h.ut b b' _ hk hk'
 ·show(g.K b).ren _=.prot
  rw[e];rfl
theorem CR.ren [Gi] {P:Program} {f:FuncId} {pin:List Tok} {args:List AV} {rs:List (Tok×List AV)} {R R':AV→List (Tok×List AV)→Prop}(h:CR P f pin args rs R)(d:Nat)
  (hr:∀x rs',R x rs'→∃m,okM d m=true∧pin.all (fun t=>inM m t==some t)=true∧R' (x.ren (inM m)) (Qm (St.ofR rs') m m)):CR P f pin args rs R':=by
 intro w g vs h1 h2
 refine(h w g vs h1 h2).mono ?_
 rintro e w' ⟨v,x,rs',g',rfl,hR,hx,hG,hA⟩
 obtain⟨m,ok,hp,hR'⟩:=hr x rs' hR
 refine⟨v,_,_,g'.ZZ m,rfl,hR',zb.ren (Ren.ZZ g' m) _ _ hx,hG.ZZ ok,⟨fun b hb hk=>?_,hA.ext,hA.out,hA.mono,fun b t hk ht=>?_⟩⟩
 ·obtain⟨a1,a2,a3⟩:=hA.frame b hb hk
  exact⟨a1,a2,by show(g'.K b).ren _=.prot;rw[a3];rfl⟩
 ·have:=List.all_eq_true.1 hp t ht
  simp at this
  exact⟨Kd.Qb.2 ⟨t,(hA.pins b t hk ht).1,this⟩,(hA.pins b t hk ht).2⟩
attribute [go_sem] St.ofR leT leP
theorem Qy [Gi] {P:Program} {S:St} {dst:Option Nat} {x:Operand} {args:Array Operand} {argTypes:Array TypeId} {tt:TypeId} {pos:String} {after:Array Edge} {guard:Option (Nat×Bool)} {r:AV}(f:FuncId) {as1:List AV}
  (hC:CR P f [] as1 [] fun y rs=>rs=[]∧y=r) (hf:zd8 (S.ev x)=some f) (hb:((P.funcs[f]?).map (·.body.isSome))=some true∧((P.funcs[f]?).map (·.name))≠some "runtime.NumGoroutine")
  (ha:(ZX S [] args.toList).1∧(ZX S [] args.toList).2=as1):xp P S ⟨dst,.call ⟨.value x,args,argTypes⟩,tt,pos,after,guard⟩ r:=by
 unfold xp
 simp only[hf]
 obtain⟨h1,rfl⟩:=ha
 exact⟨hb,h1,hC⟩
theorem Qx [Gi] {P:Program} {S:St} {o:Oper} {c:Option Bool} {K:St→Prop}(x:AV)(hx:Ww x=true)(hv:ud o=true)(hp:c≠some false→xp P S o x)(hk:dOK S o.dst∧K (S.qH o.dst (gv c x))):JD P S o c K:=
 ⟨x,⟨hx,hv,hp⟩,hk⟩
attribute [go_sem] gv vj bsD bsR ze7 zom zf0 zjf hdr List.isEmpty_cons List.isEmpty_nil ud Z3 yM Q6 zbS WM
def qE {α:Type}(n:Nat)(c:List α):List α:=(List.replicate n c).flatten
theorem qz {α:Type}(n:Nat)(c:List α):(qE n c).length=n*c.length:=by simp[qE]
end Go.AM
end
section
namespace Go.Proofs.YthbmelihnabkaaaGreat
open Go.AM
theorem mixed:Tryz.prog.follows .mixedOrders=true:=Tryz.checked.mixed
@[go_sem] theorem ty3 : ty Tryz.prog 3 = some ⟨.int .i64, 1, 8, some [.int .i64 0]⟩ := by kernel_rfl
@[go_sem] theorem ty4 : ty Tryz.prog 4 = some ⟨.bool, 1, 1, some [.bool false]⟩ := by kernel_rfl
@[go_sem] theorem ty5 : ty Tryz.prog 5 = some ⟨.int .u8, 1, 1, some [.int .u8 0]⟩ := by kernel_rfl
@[go_sem] theorem ty9 : ty Tryz.prog 9 = some ⟨.string, 1, 16, some [.str []]⟩ := by kernel_rfl
@[go_sem] theorem ty21 : ty Tryz.prog 21 = some ⟨.int .i32, 1, 4, some [.int .i32 0]⟩ := by kernel_rfl
@[go_sem] theorem ty22 : ty Tryz.prog 22 = some ⟨.slice 21, 1, 24, some [.opq (.slice none 0 0)]⟩ := by kernel_rfl
@[go_sem] theorem ty24 : ty Tryz.prog 24 = some ⟨.slice 122, 1, 24, some [.opq (.slice none 0 0)]⟩ := by kernel_rfl
@[go_sem] theorem ty26 : ty Tryz.prog 26 = some ⟨.pointer 76, 1, 8, some [.opq (.pointer none)]⟩ := by kernel_rfl
@[go_sem] theorem ty33 : ty Tryz.prog 33 = some ⟨.slice 39, 1, 24, some [.opq (.slice none 0 0)]⟩ := by kernel_rfl
@[go_sem] theorem ty34 : ty Tryz.prog 34 = some ⟨.pointer 98, 1, 8, some [.opq (.pointer none)]⟩ := by kernel_rfl
@[go_sem] theorem ty36 : ty Tryz.prog 36 = some ⟨.slice 22, 1, 24, some [.opq (.slice none 0 0)]⟩ := by kernel_rfl
@[go_sem] theorem ty37 : ty Tryz.prog 37 = some ⟨.slice 43, 1, 24, some [.opq (.slice none 0 0)]⟩ := by kernel_rfl
@[go_sem] theorem ty39 : ty Tryz.prog 39 = some ⟨Tryz.t38.desc, 3, 40, some [.int .i64 0, .int .i64 0, .opq (.slice none 0 0)]⟩ := by kernel_rfl
@[go_sem] theorem ty43 : ty Tryz.prog 43 = some ⟨Tryz.t42.desc, 3, 56, some [.int .i64 0, .opq (.slice none 0 0), .opq (.slice none 0 0)]⟩ := by kernel_rfl
@[go_sem] theorem ty45 : ty Tryz.prog 45 = some ⟨Tryz.t44.desc, 4, 64, some [.int .i64 0, .opq (.slice none 0 0), .opq (.slice none 0 0), .int .i64 0]⟩ := by kernel_rfl
@[go_sem] theorem ty59 : ty Tryz.prog 59 = some ⟨.slice 3, 1, 24, some [.opq (.slice none 0 0)]⟩ := by kernel_rfl
@[go_sem] theorem ty68 : ty Tryz.prog 68 = some ⟨.pointer 189, 1, 8, some [.opq (.pointer none)]⟩ := by kernel_rfl
@[go_sem] theorem ty70 : ty Tryz.prog 70 = some ⟨.pointer 203, 1, 8, some [.opq (.pointer none)]⟩ := by kernel_rfl
@[go_sem] theorem ty72 : ty Tryz.prog 72 = some ⟨.map 83 21, 1, 8, some [.opq (.map none)]⟩ := by kernel_rfl
@[go_sem] theorem ty73 : ty Tryz.prog 73 = some ⟨.map 21 4, 1, 8, some [.opq (.map none)]⟩ := by kernel_rfl
@[go_sem] theorem ty74 : ty Tryz.prog 74 = some ⟨.pointer 147, 1, 8, some [.opq (.pointer none)]⟩ := by kernel_rfl
@[go_sem] theorem ty76 : ty Tryz.prog 76 = some ⟨Tryz.t75.desc, 7, 56, some [.opq (.pointer none), .opq (.pointer none), .opq (.pointer none), .opq (.pointer none), .opq (.pointer none), .opq (.map none), .opq (.map none)]⟩ := by kernel_rfl
@[go_sem] theorem ty77 : ty Tryz.prog 77 = some ⟨.slice 85, 1, 24, some [.opq (.slice none 0 0)]⟩ := by kernel_rfl
@[go_sem] theorem ty78 : ty Tryz.prog 78 = some ⟨.slice 81, 1, 24, some [.opq (.slice none 0 0)]⟩ := by kernel_rfl
@[go_sem] theorem ty81 : ty Tryz.prog 81 = some ⟨Tryz.t80.desc, 4, 32, some [.int .i64 0, .int .i64 0, .int .i64 0, .int .i64 0]⟩ := by kernel_rfl
@[go_sem] theorem ty83 : ty Tryz.prog 83 = some ⟨Tryz.t82.desc, 2, 8, some [.int .i32 0, .int .i32 0]⟩ := by kernel_rfl
@[go_sem] theorem ty85 : ty Tryz.prog 85 = some ⟨Tryz.t84.desc, 4, 24, some [.int .i64 0, .int .i64 0, .int .i32 0, .int .i32 0]⟩ := by kernel_rfl
@[go_sem] theorem ty92 : ty Tryz.prog 92 = some ⟨.pointer 172, 1, 8, some [.opq (.pointer none)]⟩ := by kernel_rfl
@[go_sem] theorem ty95 : ty Tryz.prog 95 = some ⟨Tryz.t94.desc, 2, 32, some [.opq (.slice none 0 0), .int .i64 0]⟩ := by kernel_rfl
@[go_sem] theorem ty98 : ty Tryz.prog 98 = some ⟨Tryz.t97.desc, 4, 48, some [.opq (.pointer none), .opq (.pointer none), .opq (.slice none 0 0), .int .i64 0]⟩ := by kernel_rfl
@[go_sem] theorem ty100 : ty Tryz.prog 100 = some ⟨Tryz.t99.desc, 3, 24, some [.int .i64 0, .int .i64 0, .int .i64 0]⟩ := by kernel_rfl
@[go_sem] theorem ty112 : ty Tryz.prog 112 = some ⟨.slice 114, 1, 24, some [.opq (.slice none 0 0)]⟩ := by kernel_rfl
@[go_sem] theorem ty114 : ty Tryz.prog 114 = some ⟨.array 2 3, 2, 16, some [.int .i64 0, .int .i64 0]⟩ := by kernel_rfl
@[go_sem] theorem ty122 : ty Tryz.prog 122 = some ⟨Tryz.t121.desc, 5, 40, some [.int .i64 0, .int .i64 0, .int .i64 0, .int .i64 0, .int .i64 0]⟩ := by kernel_rfl
@[go_sem] theorem ty123 : ty Tryz.prog 123 = some ⟨.slice 125, 1, 24, some [.opq (.slice none 0 0)]⟩ := by kernel_rfl
@[go_sem] theorem ty125 : ty Tryz.prog 125 = some ⟨Tryz.t124.desc, 3, 24, some [.int .i64 0, .int .i64 0, .int .i64 0]⟩ := by kernel_rfl
@[go_sem] theorem ty127 : ty Tryz.prog 127 = some ⟨.array 4 3, 4, 32, some [.int .i64 0, .int .i64 0, .int .i64 0, .int .i64 0]⟩ := by kernel_rfl
@[go_sem] theorem ty128 : ty Tryz.prog 128 = some ⟨.array 4 78, 4, 96, some [.opq (.slice none 0 0), .opq (.slice none 0 0), .opq (.slice none 0 0), .opq (.slice none 0 0)]⟩ := by kernel_rfl
@[go_sem] theorem ty129 : ty Tryz.prog 129 = some ⟨.slice 139, 1, 24, some [.opq (.slice none 0 0)]⟩ := by kernel_rfl
@[go_sem] theorem ty131 : ty Tryz.prog 131 = some ⟨.slice 78, 1, 24, some [.opq (.slice none 0 0)]⟩ := by kernel_rfl
@[go_sem] theorem ty132 : ty Tryz.prog 132 = some ⟨.array 4 4, 4, 4, some [.bool false, .bool false, .bool false, .bool false]⟩ := by kernel_rfl
@[go_sem] theorem ty137 : ty Tryz.prog 137 = some ⟨Tryz.t136.desc, 4, 4, some [.bool false, .bool false, .bool false, .bool false]⟩ := by kernel_rfl
@[go_sem] theorem ty139 : ty Tryz.prog 139 = some ⟨Tryz.t138.desc, 6, 24, some [.int .i64 0, .int .i64 0, .bool false, .bool false, .bool false, .bool false]⟩ := by kernel_rfl
@[go_sem] theorem ty145 : ty Tryz.prog 145 = some ⟨.slice 156, 1, 24, some [.opq (.slice none 0 0)]⟩ := by kernel_rfl
@[go_sem] theorem ty147 : ty Tryz.prog 147 = some ⟨Tryz.t146.desc, 3, 56, some [.int .i64 0, .opq (.slice none 0 0), .opq (.slice none 0 0)]⟩ := by kernel_rfl
@[go_sem] theorem ty149 : ty Tryz.prog 149 = some ⟨.map 156 3, 1, 8, some [.opq (.map none)]⟩ := by kernel_rfl
@[go_sem] theorem ty150 : ty Tryz.prog 150 = some ⟨.map 83 3, 1, 8, some [.opq (.map none)]⟩ := by kernel_rfl
@[go_sem] theorem ty152 : ty Tryz.prog 152 = some ⟨Tryz.t151.desc, 3, 24, some [.opq (.pointer none), .opq (.map none), .opq (.map none)]⟩ := by kernel_rfl
@[go_sem] theorem ty156 : ty Tryz.prog 156 = some ⟨.array 128 83, 256, 1024, some (qE 128 [.int .i32 0, .int .i32 0])⟩ := by kernel_rfl
@[go_sem] theorem ty172 : ty Tryz.prog 172 = some ⟨Tryz.t171.desc, 3, 40, some [.opq (.slice none 0 0), .int .i64 0, .int .i64 0]⟩ := by kernel_rfl
@[go_sem] theorem ty187 : ty Tryz.prog 187 = some ⟨.slice 196, 1, 24, some [.opq (.slice none 0 0)]⟩ := by kernel_rfl
@[go_sem] theorem ty189 : ty Tryz.prog 189 = some ⟨Tryz.t188.desc, 3, 56, some [.int .i64 0, .opq (.slice none 0 0), .opq (.slice none 0 0)]⟩ := by kernel_rfl
@[go_sem] theorem ty191 : ty Tryz.prog 191 = some ⟨.map 196 3, 1, 8, some [.opq (.map none)]⟩ := by kernel_rfl
@[go_sem] theorem ty192 : ty Tryz.prog 192 = some ⟨.map 3 3, 1, 8, some [.opq (.map none)]⟩ := by kernel_rfl
@[go_sem] theorem ty194 : ty Tryz.prog 194 = some ⟨Tryz.t193.desc, 3, 24, some [.opq (.pointer none), .opq (.map none), .opq (.map none)]⟩ := by kernel_rfl
@[go_sem] theorem ty196 : ty Tryz.prog 196 = some ⟨.array 128 3, 128, 1024, some (qE 128 [.int .i64 0])⟩ := by kernel_rfl
@[go_sem] theorem ty198 : ty Tryz.prog 198 = some ⟨.map 3 4, 1, 8, some [.opq (.map none)]⟩ := by kernel_rfl
@[go_sem] theorem ty201 : ty Tryz.prog 201 = some ⟨.slice 212, 1, 24, some [.opq (.slice none 0 0)]⟩ := by kernel_rfl
@[go_sem] theorem ty203 : ty Tryz.prog 203 = some ⟨Tryz.t202.desc, 3, 56, some [.int .i64 0, .opq (.slice none 0 0), .opq (.slice none 0 0)]⟩ := by kernel_rfl
@[go_sem] theorem ty205 : ty Tryz.prog 205 = some ⟨.map 212 3, 1, 8, some [.opq (.map none)]⟩ := by kernel_rfl
@[go_sem] theorem ty206 : ty Tryz.prog 206 = some ⟨.map 137 3, 1, 8, some [.opq (.map none)]⟩ := by kernel_rfl
@[go_sem] theorem ty208 : ty Tryz.prog 208 = some ⟨Tryz.t207.desc, 3, 24, some [.opq (.pointer none), .opq (.map none), .opq (.map none)]⟩ := by kernel_rfl
@[go_sem] theorem ty212 : ty Tryz.prog 212 = some ⟨.array 128 137, 512, 512, some (qE 128 [.bool false, .bool false, .bool false, .bool false])⟩ := by kernel_rfl
@[go_sem] theorem ty216 : ty Tryz.prog 216 = some ⟨.int .u64, 1, 8, some [.int .u64 0]⟩ := by kernel_rfl
@[go_sem] theorem ty221 : ty Tryz.prog 221 = some ⟨Tryz.t220.desc, 2, 32, some [.opq (.pointer none), .opq (.slice none 0 0)]⟩ := by kernel_rfl
@[go_sem] theorem ty225 : ty Tryz.prog 225 = some ⟨Tryz.t224.desc, 5, 40, some [.bool false, .int .i64 0, .int .i64 0, .int .i64 0, .bool false]⟩ := by kernel_rfl
@[go_sem] theorem ty242 : ty Tryz.prog 242 = some ⟨.int .u64, 1, 8, some [.int .u64 0]⟩ := by kernel_rfl
@[go_sem] theorem ty252 : ty Tryz.prog 252 = some ⟨.array 2 21, 2, 8, some [.int .i32 0, .int .i32 0]⟩ := by kernel_rfl
@[go_sem] theorem ty261 : ty Tryz.prog 261 = some ⟨.array 3 21, 3, 12, some [.int .i32 0, .int .i32 0, .int .i32 0]⟩ := by kernel_rfl
@[go_sem] theorem zo5 : KX Tryz.prog 21 = some (.int .i32 0) := by kernel_rfl
@[go_sem] theorem zp4 : KX Tryz.prog 4 = some (.bool false) := by kernel_rfl
@[go_sem] theorem zp3 : KX Tryz.prog 3 = some (.int .i64 0) := by kernel_rfl
@[go_sem] theorem ck83 : j9 Tryz.prog 83 = some [.i .i32, .i .i32] := by kernel_rfl
@[go_sem] theorem ck132 : j9 Tryz.prog 132 = some [.b, .b, .b, .b] := by kernel_rfl
@[go_sem] theorem kk3 : ZQ Tryz.prog 3 = some (false, [.i .i64]) := by kernel_rfl
@[go_sem] theorem zo4 : ZQ Tryz.prog 21 = some (false, [.i .i32]) := by kernel_rfl
@[go_sem] theorem zo6 : ZQ Tryz.prog 83 = some (true, [.i .i32, .i .i32]) := by kernel_rfl
@[go_sem] theorem zo1 : ZQ Tryz.prog 137 = some (true, [.b, .b, .b, .b]) := by kernel_rfl
@[go_sem] theorem zo0 : ZQ Tryz.prog 156 = some (true, qE 128 [.i .i32, .i .i32]) := uW ty156 (by kernel_rfl) (by kernel_rfl) ty83 (by decide)
@[go_sem] theorem zo3 : ZQ Tryz.prog 196 = some (true, qE 128 [.i .i64]) := uW ty196 (by kernel_rfl) (by kernel_rfl) ty3 (by decide)
@[go_sem] theorem zo2 : ZQ Tryz.prog 212 = some (true, qE 128 [.b, .b, .b, .b]) := uW ty212 (by kernel_rfl) (by kernel_rfl) ty137 (by decide)
attribute [go_sem] Tryz.t7 Tryz.t13 Tryz.t18 Tryz.t38 Tryz.t42 Tryz.t44 Tryz.t75 Tryz.t80 Tryz.t82 Tryz.t84 Tryz.t94 Tryz.t97 Tryz.t99 Tryz.t121 Tryz.t124 Tryz.t136 Tryz.t138 Tryz.t146 Tryz.t151 Tryz.t166 Tryz.t171 Tryz.t188 Tryz.t193 Tryz.t202 Tryz.t207 Tryz.t220 Tryz.t224 Tryz.t268 Tryz.t271 Tryz.t279
end Go.Proofs.YthbmelihnabkaaaGreat
end
section
namespace Go.AM
theorem JN.mono [Gi] {P:Program} {S:St} {f:FuncId} {args:List Operand} {dst:Option Nat} {K K':St→Prop}(hk:∀S,K S→K' S)(h:JN P S f args dst K):JN P S f args dst K':=by
 obtain⟨m,pin,R,h1,h2,h3,h4⟩:=h
 exact⟨m,pin,R,h1,h2,h3,fun x rs' hr=>hk _ (h4 x rs' hr)⟩
theorem zcD.mono [Gi] {P:Program} {S:St} {f:FuncId} {cs:List AV} {args:List Operand} {dst:Option Nat} {K K':St→Prop}(hk:∀S,K S→K' S)(h:zcD P S f cs args dst K):zcD P S f cs args dst K':=by
 obtain⟨m,pin,R,h1,h2,h3,h4⟩:=h
 exact⟨m,pin,R,h1,h2,h3,fun x rs' hr=>hk _ (h4 x rs' hr)⟩
theorem zd6 [Gi] {P:Program} {S:St} {o:Oper} {K K':St→Prop}(hk:∀S,K S→K' S)(h:U0 P S o K):U0 P S o K':=by
 unfold U0 at h⊢
 split at h
 ·split at h
  ·split at h
   ·exact⟨h.1,h.2.mono hk⟩
   ·split at h
    ·exact⟨h.1,h.2.mono hk⟩
    ·exact h.elim
  ·exact h.elim
 ·split at h
  ·exact⟨h.1,fun e=>hk _ (h.2.1 e),fun i hi=>hk _ (h.2.2 i hi)⟩
  ·exact h.elim
 ·exact h.elim
theorem Y1 [Gi] {P:Program} {S:St} {o:Oper} {K K':St→Prop}(hk:∀S,K S→K' S)(h:Km P S o K):Km P S o K':=by
 unfold Km at h⊢
 split at h
 ·exact⟨h.1,hk _ h.2⟩
 ·exact zd6 hk h
theorem Jg [Gi] {P:Program} {S:St} {o:Oper} {c:Option Bool} {K K':St→Prop}(hk:∀S,K S→K' S)(h:y3 P S o c K):y3 P S o c K':=by
 unfold y3 at h⊢
 split at h
 ·split at h
  ·exact⟨h.1,hk _ h.2⟩
  ·exact⟨h.1,hk _ h.2⟩
 ·split at h
  ·exact Y1 hk h
  ·exact⟨fun e=>Y1 hk (h.1 e),fun e=>⟨(h.2 e).1,hk _ (h.2 e).2⟩⟩
theorem vR [Gi] {P:Program} {ops:Array Oper}:∀{l:List Oper} {S:St} {K K':St→Prop},(∀S,K S→K' S)→Z0 P ops l S K→Z0 P ops l S K'
 | [],S,K,K',hk,h=>hk _ h
 |o::l,S,K,K',hk,h=>by
  unfold Z0 at h⊢
  split at h
  ·exact Jg (fun S' h'=>vR hk h') h
  ·exact h.elim
theorem Xp [Gi] {P:Program} {ops:Array Oper}:∀{l:List Oper} {S:St} {K K':St→Prop},(∀S,K S→K' S)→uA P ops l S K→uA P ops l S K'
 | [],S,K,K',hk,h=>hk _ h
 |o::l,S,K,K',hk,h=>by
  unfold uA at h⊢
  split
  ·rename_i hh
   rw[if_pos hh]at h
   split at h
   ·obtain⟨x,h1,h2,h3⟩:=h
    exact⟨x,h1,h2,Xp hk h3⟩
   ·exact h.elim
  ·rename_i hh
   rw[if_neg hh]at h
   exact vR hk h
mutual
theorem Xl [Gi] {P:Program} {ops:Array Oper} {K K':St→Prop}(hk:∀S,K S→K' S):∀(t:OT) {S:St},jL P ops K t S→jL P ops K' t S
 |.mk [],S,h=>by simp only[jL]at h⊢;exact hk _ h
 |.mk (x::l),S,h=>by simp only[jL]at h⊢;exact Yc hk (x::l) h
 |.now i c t,S,h=>by
  simp only[jL]at h⊢
  unfold zh6 at h⊢
  split
  ·rename_i o ho
   simp only[ho]at h
   unfold zj7 at h⊢
   split
   ·rename_i r hr
    simp only[hr]at h
    exact⟨h.1,h.2.1,Xl hk t h.2.2⟩
   ·rename_i hr
    simp only[hr]at h
  ·rename_i ho
   simp only[ho]at h
theorem Yc [Gi] {P:Program} {ops:Array Oper} {K K':St→Prop}(hk:∀S,K S→K' S):∀(l:List (Nat×OT)) {S:St},yu P ops K l S→yu P ops K' l S
 | [],S,_=>by simp only[yu]
 |(i,t)::l,S,h=>by
  simp only[yu]at h⊢
  refine⟨?_,Yc hk l h.2⟩
  have h1:=h.1
  cases ho:ops[i]? with
  |none=>rw[ho]at h1;exact h1.elim
  |some o=>
   rw[ho]at h1
   simp only at h1⊢
   cases hg:qN ops S o with
   |none=>rw[hg]at h1;exact h1.2.elim
   |some c=>rw[hg]at h1;exact⟨h1.1,Jg (fun S' h'=>Xl hk t h') h1.2⟩
end
theorem Q7 [Gi] {P:Program} {D:List Nat}:∀(c:Code) {Q Q':Exit→St→Prop} {S:St},(∀e S,Q e S→Q' e S)→wpA P D c Q S→wpA P D c Q' S
 |.skip,Q,Q',S,hq,h=>by simp only[wpA]at h⊢;exact hq _ _ h
 |.region id ops draw,Q,Q',S,hq,h=>by
  simp only[wpA]at h⊢
  split
  ·rename_i hc;rw[if_pos hc]at h;exact zeX (fun S h=>hq _ _ h) h
  rename_i hl0
  rw[if_neg hl0]at h
  split
  ·rename_i hc;rw[if_pos hc]at h;exact zez (fun S h=>hq _ _ h) h
  ·rename_i hl
   rw[if_neg hl]at h
   split
   ·rename_i hc;rw[if_pos hc]at h;exact Xp (fun S h=>hq _ _ h) h
   ·rename_i hc;rw[if_neg hc]at h;exact vR (fun S h=>hq _ _ h) h
 |.seq x y,Q,Q',S,hq,h=>by
  simp only[wpA]at h⊢
  refine Q7 x (fun e S' h'=>?_) h
  cases e with
  |normal=>exact Q7 y hq h'
  |_=>exact hq _ _ h'
 |.cond c x y,Q,Q',S,hq,h=>by
  simp only[wpA]at h⊢
  split at h
  ·exact⟨fun e=>Q7 x hq (h.1 e),fun e=>Q7 y hq (h.2 e)⟩
  ·exact h.elim
 |.block id c,Q,Q',S,hq,h=>by
  simp only[wpA]at h⊢
  refine Q7 c (fun e S' h'=>?_) h
  cases e with
  |exit i=>
   simp only[]at h'⊢
   split
   ·rename_i hi;rw[if_pos hi]at h';exact hq _ _ h'
   ·rename_i hi;rw[if_neg hi]at h';exact hq _ _ h'
  |_=>exact hq _ _ h'
 |.loop c,Q,Q',S,hq,h=>by
  simp only[wpA]at h⊢
  obtain⟨ι,st,m,h0,hr⟩:=h
  refine⟨ι,st,m,h0,fun i=>Q7 c (fun e S' h'=>?_) (hr i)⟩
  cases e with
  |normal=>exact h'
  |_=>exact hq _ _ h'
 |.exit id,Q,Q',S,hq,h=>by simp only[wpA]at h⊢;exact hq _ _ h
 |.ret,Q,Q',S,hq,h=>by simp only[wpA]at h⊢;exact hq _ _ h
 |.rangeFunc ..,Q,Q',S,hq,h=>by simp only[wpA]at h
 |.scope _,Q,Q',S,hq,h=>by simp only[wpA]at h
 |.label _,Q,Q',S,hq,h=>by simp only[wpA]at h
 |.goto _,Q,Q',S,hq,h=>by simp only[wpA]at h
 |.refuse _,Q,Q',S,hq,h=>by simp only[wpA]at h
def zls {ι:Type}(st:ι→St)(Q:Exit→St→Prop):Exit→St→Prop:=fun e S=>match e with|.normal=>∃i,S=st i|e=>Q e S
@[go_sem] theorem zlM {ι : Type} {st : ι → St} {Q : Exit → St → Prop} {S : St} {k : Nat} : zls st Q (.exit k) S = Q (.exit k) S := rfl
@[go_sem] theorem zm8 {ι : Type} {st : ι → St} {Q : Exit → St → Prop} {S : St} : zls st Q .ret S = Q .ret S := rfl
theorem zj:∀l:List AV,leL l l
 | []=>trivial
 |x::l=>⟨ziT x,zj l⟩
attribute [go_sem] has
end Go.AM
end
