/- A part of this seat's proofs, by an abstract machine. Conditions: each law's. -/
import Derived.Test.YtfjdbbpimklecaaGreatDoorV15
import Derived.KernelRfl
import Derived.Test.YtfjdbbpimklecaaGreatDoorChecked
import Derived.Eval
namespace Go.AM
section
def zi0 [Gi](P:Program)(ops:Array Oper)(rest:List Oper)(K:St→Prop):St→Prop:=fun S=>ZW P ops rest S K
def zbo [Gi](P:Program)(D:List Nat)(y:Code)(Q:Exit→St→Prop):Exit→St→Prop:=fun e S=>match e with|.normal=>wpA P D y Q S|e=>Q e S
def zdH(id:Nat)(Q:Exit→St→Prop):Exit→St→Prop:=fun e S=>match e with|.exit i=>if i=id then Q .normal S else Q (.exit i) S|e=>Q e S
def kF [Gi](P:Program)(S:St)(o:Oper)(K:St→Prop):Option (Option Bool)→Prop
 |some c=>QQ P S o c K
 |none=>False
def WX [Gi](P:Program)(S:St)(o:Oper)(K:St→Prop)(c:Option Bool):Option PR→Prop
 |some r=>match c with
  |none=>(r.1∧dOK S o.dst)∧K (S.qg o.dst r.2)
  |some c=>((c=true→r.1)∧dOK S o.dst)∧K (S.qg o.dst (.gd c r.2))
 |none=>match c with
  |none=>Vo P S o K
  |some c=>(c=true→Vo P S o K)∧(c=false→dOK S o.dst∧K (S.qg o.dst (.gd false .zK)))
def KD [Gi](P:Program)(S:St)(o:Oper)(K:St→Prop):Option (Prop×St)→Prop
 |some r=>r.1∧K r.2
 |none=>W2 P S o K
def xP [Gi](P:Program)(D:List Nat)(x y:Code)(Q:Exit→St→Prop)(S:St):AV→Prop
 |.p (.bool b)=>(b=true→wpA P D x Q S)∧(b=false→wpA P D y Q S)
 |_=>False
section
variable {P:Program} {D:List Nat} {ops:Array Oper} {S:St} {K:St→Prop} {Q:Exit→St→Prop}
@[go_sem] theorem zkp [Gi] : ZW P ops [] S K = K S := _root_.id rfl
@[go_sem] theorem zjK [Gi] {o : Oper} {rest : List Oper} : ZW P ops (o :: rest) S K = kF P S o (zi0 P ops rest K) (zY ops S o) := by
 simp only[ZW];unfold kF;split<;>simp_all;rfl
@[go_sem] theorem zkR [Gi] {rest : List Oper} : zi0 P ops rest K S = ZW P ops rest S K := _root_.id rfl
@[go_sem] theorem zhU [Gi] {o : Oper} {c : Option Bool} : kF P S o K (some c) = WX P S o K c (qE P S o) := by
 unfold kF QQ WX;rfl
@[go_sem] theorem zij [Gi] {o : Oper} {c : Prop} {x : AV} : WX P S o K none (some (c, x)) = ((c ∧ dOK S o.dst) ∧ K (S.qg o.dst x)) := rfl
@[go_sem] theorem zkd [Gi] {o : Oper} {b : Bool} {c : Prop} {x : AV} : WX P S o K (some b) (some (c, x)) = (((b = true → c) ∧ dOK S o.dst) ∧ K (S.qg o.dst (.gd b x))) := rfl
@[go_sem] theorem zjv [Gi] {o : Oper} : WX P S o K none none = KD P S o K (X5 P S o) := by
 unfold WX Vo KD;rfl
@[go_sem] theorem zhL [Gi] {o : Oper} {b : Bool} : WX P S o K (some b) none = ((b = true → KD P S o K (X5 P S o)) ∧ (b = false → dOK S o.dst ∧ K (S.qg o.dst (.gd false .zK)))) := by
 unfold WX Vo KD;rfl
@[go_sem] theorem zia [Gi] {o : Oper} {c : Prop} {S' : St} : KD P S o K (some (c, S')) = (c ∧ K S') := rfl
@[go_sem] theorem zic [Gi] {o : Oper} : KD P S o K none = W2 P S o K := rfl
@[go_sem] theorem zkW [Gi] : wpA P D .skip Q S = Q .normal S := _root_.id rfl
@[go_sem] theorem zh4 [Gi] {id : Nat} {l : List Oper} : wpA P D (.region id l.toArray false) Q S = ZW P l.toArray l { S with ts := [] } (Q .normal) := _root_.id rfl
def VU [Gi](P:Program)(l:List Oper)(K:St→Prop)(S:St):Bool→Prop
 |true=>jI P l.toArray l (jU P l S) K
 |false=>ZW P l.toArray l S K
def K0 [Gi](P:Program)(l:List Oper)(K:St→Prop)(S:St):Bool→Bool→Prop
 |true,true=>VU P (l.map Z8) K S true
 |true,false=>vH P l.toArray S K
 |false,c=>VU P l K S c
def zbS [Gi](P:Program)(l:List Oper)(K:St→Prop)(S:St):Bool→Bool→Bool→Prop
 |true,_,_=>zch P l.toArray K S
 |false,b,c=>K0 P l K S b c
@[go_sem] theorem zhO [Gi] {id : Nat} {l : List Oper} : wpA P D (.region id l.toArray true) Q S = zbS P l (Q .normal) { S with ts := [] } (D.contains (id + 200000)) (D.contains (id + 100000)) (D.contains id) := by
 unfold zbS K0 VU
 simp only[wpA,Bool.true_and]
 have e:UJ P l.toArray {S with ts:=[]} (Q .normal)=jI P (l.map Z8).toArray (l.map Z8) (jU P (l.map Z8) {S with ts:=[]}) (Q .normal):=by
  unfold UJ strip
  simp only[List.map_toArray]
 cases D.contains (id+200000)<;>cases D.contains (id+100000)<;>cases D.contains id<;>first|rfl|exact e
@[go_sem] theorem zhP [Gi] {l : List Oper} {K : St → Prop} {b c : Bool} : zbS P l K S false b c = K0 P l K S b c := _root_.id rfl
theorem ZC [Gi] {l:List Oper} {K:St→Prop} {b c:Bool}(t:OT)(h1:(Region.noSelect l.toArray&&okT l.toArray l.toArray.size (Array.replicate l.toArray.size false) t)=true)(h2:jo P l.toArray K t S):zbS P l K S true b c:=⟨t,K,h1,h2,fun _ h=>.inl h⟩
def stepT [Gi](P:Program)(ops:Array Oper)(S:St)(K:St→Prop):Option Oper→Prop
 |some o=>Uc (qE P S o) (Ur o)∧kF P S o K (zY ops S o)
 |none=>False
def zex [Gi](P:Program)(ops:Array Oper)(K:St→Prop)(t:OT):St→Prop:=fun S=>jo P ops K t S
@[go_sem] theorem zjN [Gi] {ops : Array Oper} {K : St → Prop} {t : OT} : zex P ops K t S = jo P ops K t S := _root_.id rfl
@[go_sem] theorem zkj [Gi] {ops : Array Oper} {K : St → Prop} {i c : Nat} {t : OT} : jo P ops K (.now i c t) S = Xr P S c (zex P ops K t) ops[i]? := by simp only [jo]; rfl
@[go_sem] theorem zjC {K : St → Prop} {c : Nat} {o : Oper} : Xr P S c K (some o) = zc7 P S o c K (qE P S o) := rfl
@[go_sem] theorem zjO {K : St → Prop} {c : Nat} {o : Oper} {p : Prop} {x : AV} : zc7 P S o c K (some (p, x)) = ((p ∧ dOK S o.dst) ∧ zaQ c (yG S o x) (yK o || Vk x) ∧ K (S.qg o.dst x)) := rfl
@[go_sem] theorem zk5 {a b : Bool} : zaQ 0 a b = True := rfl
@[go_sem] theorem zlw {a b : Bool} : zaQ 1 a b = ((a || b) = true) := rfl
@[go_sem] theorem zli {a b : Bool} : zaQ 2 a b = (a = true) := rfl
@[go_sem] theorem zj1 [Gi] {ops : Array Oper} {K : St → Prop} : jo P ops K (.mk []) S = K S := by simp only [jo]
@[go_sem] theorem zjA [Gi] {ops : Array Oper} {K : St → Prop} {x : Nat × OT} {l : List (Nat × OT)} : jo P ops K (.mk (x :: l)) S = jX P ops K (x :: l) S := by simp only [jo]
@[go_sem] theorem zjG [Gi] {ops : Array Oper} {K : St → Prop} : jX P ops K [] S = True := by simp only [jX]
@[go_sem] theorem zhY [Gi] {ops : Array Oper} {K : St → Prop} {i : Nat} {t : OT} {l : List (Nat × OT)} : jX P ops K ((i, t) :: l) S = (stepT P ops S (zex P ops K t) ops[i]? ∧ jX P ops K l S) := by
 simp only[jX]
 cases ops[i]? with
 |none=>rfl
 |some o=>simp only[stepT,kF];cases zY ops S o<;>rfl
@[go_sem] theorem zjq [Gi] {ops : Array Oper} {K : St → Prop} {o : Oper} : stepT P ops S K (some o) = (Uc (qE P S o) (Ur o) ∧ kF P S o K (zY ops S o)) := rfl
@[go_sem] theorem zh8 {o : Option PR} : Uc o false = True := rfl
@[go_sem] theorem zim [Gi] {l : List Oper} : K0 P l K S true false = vH P l.toArray S K := _root_.id rfl
@[go_sem] theorem zhF [Gi] {l : List Oper} : K0 P l K S true true = VU P (l.map Z8) K S true := _root_.id rfl
attribute [go_sem] Z8
@[go_sem] theorem zhv [Gi] {l : List Oper} {c : Bool} : K0 P l K S false c = VU P l K S c := _root_.id rfl
def zfm(P:Program)(t:Tok)(ov:Nat)(rest:List Oper)(K:St→Prop):Option (Prop×St)→Prop
 |some r=>r.1∧jQ P t ov rest r.2 K
 |none=>False
def JG(P:Program)(t:Tok)(ov:Nat)(S:St)(o:Oper)(rest:List Oper)(K:St→Prop):Option PR→Prop
 |some r=>(r.1∧(Wn o || Vk r.2)=true∧dOK S o.dst)∧opsL P t ov rest (S.qg o.dst r.2) K
 |none=>False
def zci(P:Program)(t:Tok)(ov:Nat)(S:St)(o:Oper)(rest:List Oper)(K:St→Prop):Bool→Prop
 |true=>JG P t ov S o rest K (qE P (ui t S) o)
 |false=>jQ P t ov (o::rest) S K
@[go_sem] theorem zkv {t : Tok} {ov : Nat} : opsL P t ov [] S K = K S := rfl
@[go_sem] theorem zjs {t : Tok} {ov : Nat} {o : Oper} {rest : List Oper} : opsL P t ov (o :: rest) S K = zci P t ov S o rest K (Zw o) := by
 unfold zci JG
 simp only[opsL]
 cases Zw o
 ·rfl
 ·simp only[if_true]
  cases qE P (ui t S) o<;>rfl
@[go_sem] theorem zjt {t : Tok} {ov : Nat} : jQ P t ov [] S K = K S := rfl
@[go_sem] theorem zjf {t : Tok} {ov : Nat} {o : Oper} {rest : List Oper} : jQ P t ov (o :: rest) S K = zfm P t ov rest K (Xp P t ov S o) := by
 unfold zfm
 simp only[jQ]
 cases Xp P t ov S o<;>rfl
@[go_sem] theorem ziK {t : Tok} {ov : Nat} {o : Oper} {rest : List Oper} : zci P t ov S o rest K true = JG P t ov S o rest K (qE P (ui t S) o) := rfl
@[go_sem] theorem zhK {t : Tok} {ov : Nat} {o : Oper} {rest : List Oper} : zci P t ov S o rest K false = jQ P t ov (o :: rest) S K := rfl
@[go_sem] theorem zhW {t : Tok} {ov : Nat} {o : Oper} {rest : List Oper} {r : PR} : JG P t ov S o rest K (some r) = ((r.1 ∧ (Wn o || Vk r.2) = true ∧ dOK S o.dst) ∧ opsL P t ov rest (S.qg o.dst r.2) K) := rfl
@[go_sem] theorem zh7 {t : Tok} {ov : Nat} {rest : List Oper} {r : Prop × St} : zfm P t ov rest K (some r) = (r.1 ∧ jQ P t ov rest r.2 K) := rfl
attribute [go_sem] yG VH Ur yK
attribute [go_sem] vQ Wn Vk zab zev ui Xp vH
@[go_sem] theorem zil [Gi] {l : List Oper} : VU P l K S true = jI P l.toArray l (jU P l S) K := _root_.id rfl
@[go_sem] theorem zhy [Gi] {l : List Oper} : VU P l K S false = ZW P l.toArray l S K := _root_.id rfl
def zee [Gi](P:Program)(ops:Array Oper)(rest:List Oper)(K:St→Prop):St→Prop:=fun S=>jI P ops rest S K
@[go_sem] theorem zjP [Gi] {rest : List Oper} : zee P ops rest K S = jI P ops rest S K := _root_.id rfl
def Us [Gi](P:Program)(S:St)(o:Oper)(c:Option Bool)(K:St→Prop):Prop:=∃x,(vr x=true∧kz o=true∧(c≠some false→kH P S o x))∧dOK S o.dst∧K (S.qg o.dst (gv c x))
def Jl [Gi](P:Program)(S:St)(o:Oper)(K:St→Prop)(c:Option Bool):Option PR→Prop
 |some r=>(c≠some false→r.1)∧dOK S o.dst∧K (S.qg o.dst (gv c r.2))
 |none=>Us P S o c K
def WV [Gi](P:Program)(S:St)(o:Oper)(K:St→Prop)(c:Option Bool):Option PR→Prop
 |some r=>(c≠some false→r.1)∧dOK S o.dst∧K (S.qg o.dst (gv c r.2))
 |none=>Jl P S o K c (bsD P S o)
def Xh [Gi](P:Program)(S:St)(o:Oper)(K:St→Prop)(c:Option Bool):Option (Nat×List AV)→Prop
 |some (d,cs)=>(c=none∧S.pin.contains [d]=false∧zw S.rs [d]=some cs)∧dOK S o.dst∧K (S.qg o.dst (.lp [d] 0))
 |none=>WV P S o K c (xl P S o)
def Uv [Gi](P:Program)(S:St)(o:Oper)(K:St→Prop):Option (Option Bool)→Prop
 |some c=>Xh P S o K c (Qd P o)
 |none=>False
def zbP [Gi](P:Program)(ops:Array Oper)(S:St)(o:Oper)(rest:List Oper)(K:St→Prop):Bool→Prop
 |true=>Uv P S o (zee P ops rest K) (zY ops S o)
 |false=>ZW P ops (o::rest) S K
@[go_sem] theorem zj7 [Gi] : jI P ops [] S K = K S := _root_.id rfl
@[go_sem] theorem zjQ [Gi] {o : Oper} {rest : List Oper} : jI P ops (o :: rest) S K = zbP P ops S o rest K (hdr o rest) := by
 unfold jI zbP
 cases hdr o rest
 ·simp
 ·simp only[if_true]
  unfold Uv
  cases zY ops S o with
  |none=>rfl
  |some c=>
   simp only[]
   unfold Xh wH
   cases hz:Qd P o with
   |some dc=>
    obtain⟨d,cs⟩:=dc
    simp only[]
    refine propext ⟨?_,?_⟩
    ·rintro⟨x,⟨rfl,rfl,h1,h2⟩,h3,h4⟩;exact⟨⟨rfl,h1,h2⟩,h3,h4⟩
    ·rintro⟨⟨rfl,h1,h2⟩,h3,h4⟩;exact⟨_,⟨rfl,rfl,h1,h2⟩,h3,h4⟩
   |none=>
    simp only[]
    unfold WV
    cases hp:xl P S o with
    |none=>
     simp only[]
     unfold Jl
     cases hb:bsD P S o with
     |none=>simp only[];unfold Us;rfl
     |some r=>
      simp only[]
      refine propext ⟨?_,?_⟩
      ·rintro⟨x,⟨rfl,h1⟩,h2,h3⟩;exact⟨h1,h2,h3⟩
      ·rintro⟨h1,h2,h3⟩;exact⟨_,⟨rfl,h1⟩,h2,h3⟩
    |some r=>
     simp only[]
     refine propext ⟨?_,?_⟩
     ·rintro⟨x,⟨rfl,h1⟩,h2,h3⟩;exact⟨h1,h2,h3⟩
     ·rintro⟨h1,h2,h3⟩;exact⟨_,⟨rfl,h1⟩,h2,h3⟩
@[go_sem] theorem zh2 [Gi] {o : Oper} {rest : List Oper} : zbP P ops S o rest K true = Uv P S o (zee P ops rest K) (zY ops S o) := rfl
@[go_sem] theorem zhQ [Gi] {o : Oper} {rest : List Oper} : zbP P ops S o rest K false = ZW P ops (o :: rest) S K := rfl
@[go_sem] theorem zit [Gi] {o : Oper} {c : Option Bool} : Uv P S o K (some c) = Xh P S o K c (Qd P o) := rfl
@[go_sem] theorem ziV [Gi] {o : Oper} {c : Option Bool} : Xh P S o K c none = WV P S o K c (xl P S o) := rfl
@[go_sem] theorem zib [Gi] {o : Oper} {c : Option Bool} {d : Nat} {cs : List AV} : Xh P S o K c (some (d, cs)) = ((c = none ∧ S.pin.contains [d] = false ∧ zw S.rs [d] = some cs) ∧ dOK S o.dst ∧ K (S.qg o.dst (.lp [d] 0))) := rfl
@[go_sem] theorem zif [Gi] {o : Oper} {p : Prop} {x : AV} : WV P S o K none (some (p, x)) = (p ∧ dOK S o.dst ∧ K (S.qg o.dst x)) := by simp [WV, gv]
@[go_sem] theorem zh9 [Gi] {o : Oper} {b : Bool} {p : Prop} {x : AV} : WV P S o K (some b) (some (p, x)) = ((b = true → p) ∧ dOK S o.dst ∧ K (S.qg o.dst (.gd b x))) := by simp [WV, gv]
@[go_sem] theorem zjo [Gi] {o : Oper} {c : Option Bool} : WV P S o K c none = Jl P S o K c (bsD P S o) := rfl
@[go_sem] theorem ziR [Gi] {o : Oper} {c : Option Bool} : Jl P S o K c none = Us P S o c K := rfl
@[go_sem] theorem ziY [Gi] {o : Oper} {p : Prop} {x : AV} : Jl P S o K none (some (p, x)) = (p ∧ dOK S o.dst ∧ K (S.qg o.dst x)) := by simp [Jl, gv]
@[go_sem] theorem JW [Gi] {x y : Code} : wpA P D (.seq x y) Q S = wpA P D x (zbo P D y Q) S := _root_.id rfl
@[go_sem] theorem zkT [Gi] {c : Operand} {x y : Code} : wpA P D (.cond c x y) Q S = xP P D x y Q S (S.ev c) := _root_.id rfl
@[go_sem] theorem zjy [Gi] {id : Nat} {c : Code} : wpA P D (.block id c) Q S = wpA P D c (zdH id Q) S := _root_.id rfl
@[go_sem] theorem zkr [Gi] {id : Nat} : wpA P D (.exit id) Q S = Q (.exit id) S := _root_.id rfl
@[go_sem] theorem zk0 [Gi] : wpA P D .ret Q S = Q .ret S := _root_.id rfl
@[go_sem] theorem ziC [Gi] {x y : Code} : xP P D x y Q S (.p (.bool true)) = wpA P D x Q S := by simp [xP]
@[go_sem] theorem zhX [Gi] {x y : Code} : xP P D x y Q S (.p (.bool false)) = wpA P D y Q S := by simp [xP]
theorem qn [Gi] {x y:Code} {b:Bool}(h1:b=true→wpA P D x Q S)(h2:b=false→wpA P D y Q S):xP P D x y Q S (.p (.bool b)):=⟨h1,h2⟩
theorem zq [Gi] {x y:Code} {p:Prop}[Decidable p](h1:p→wpA P D x Q S)(h2:¬p→wpA P D y Q S):xP P D x y Q S (.p (.bool (decide p))):=⟨fun h=>h1 (of_decide_eq_true h),fun h=>h2 (of_decide_eq_false h)⟩
theorem yh [Gi] {x y:Code} {p:Prop}[Decidable p](h1:¬p→wpA P D x Q S)(h2:p→wpA P D y Q S):xP P D x y Q S (.p (.bool (!decide p))):=⟨fun h=>h1 (by simpa using h),fun h=>h2 (by simpa using h)⟩
@[go_sem] theorem Xn [Gi] {y : Code} : zbo P D y Q .normal S = wpA P D y Q S := _root_.id rfl
@[go_sem] theorem zjM [Gi] {y : Code} {i : Nat} : zbo P D y Q (.exit i) S = Q (.exit i) S := _root_.id rfl
@[go_sem] theorem zku [Gi] {y : Code} : zbo P D y Q .ret S = Q .ret S := _root_.id rfl
@[go_sem] theorem zhE {id : Nat} : zdH id Q .normal S = Q .normal S := rfl
@[go_sem] theorem zjI {id i : Nat} : zdH id Q (.exit i) S = if i = id then Q .normal S else Q (.exit i) S := rfl
@[go_sem] theorem zj8 {id : Nat} : zdH id Q .ret S = Q .ret S := rfl
end
def Ui {ι:Type}(inv:ι→Prop)(st:ι→St)(m:ι→Nat)(i:ι)(Q:Exit→St→Prop):Exit→St→Prop:=fun e S=>match e with|.normal=>∃j:{i:ι//inv i},LeR S (st j.1)∧m j.1<m i|e=>Q e S
@[go_sem] theorem ziQ {ι : Type} {inv : ι → Prop} {st : ι → St} {m : ι → Nat} {i : ι} {Q : Exit → St → Prop} {S : St} {k : Nat} : Ui inv st m i Q (.exit k) S = Q (.exit k) S := rfl
@[go_sem] theorem zjE {ι : Type} {inv : ι → Prop} {st : ι → St} {m : ι → Nat} {i : ι} {Q : Exit → St → Prop} {S : St} : Ui inv st m i Q .ret S = Q .ret S := rfl
theorem zj {ι:Type} {inv:ι→Prop} {st:ι→St} {m:ι→Nat} {i:ι} {Q:Exit→St→Prop} {S:St}(j:ι)(h1:inv j)(h2:LeS S (st j))(h3:m j<m i):Ui inv st m i Q .normal S:=⟨⟨j,h1⟩,.inl h2,h3⟩
theorem QT [Gi] {P:Program} {D:List Nat} {c:Code} {Q:Exit→St→Prop} {S:St} {ι:Type}(inv:ι→Prop)(st:ι→St)(m:ι→Nat)(i:ι)(hi:inv i)(h0:LeS S (st i))(h:∀i,inv i→wpA P D c (Ui inv st m i Q) (st i)):wpA P D (.loop c) Q S:=
 ⟨{i:ι//inv i},fun i=>st i.1,fun i=>m i.1,⟨⟨i,hi⟩,h0⟩,fun i=>h i.1 i.2⟩
theorem zu {α:Type}(f:α→PV)(l:List α)(n:Nat)(h:n<l.length):elemAt (l.map f) n=f l[n]:=by simp[elemAt,h]
theorem zfT(x:AV):leA x x:=.inl rfl
theorem zn {P:Program} {ts:List (Nat×Option TypeId)} {R:AV→List (Tok×List AV)→Prop} {S:St}(x:AV)(hp:S.pin=[])(hx:(zg P S ts).1∧leT ((zg P S ts).2.upd (AM.fil (fun _=>false) ftt)) x)(hR:R x []):wo P [] ts R S:=by
 have e:(fun t:Tok=>([]:List Tok).contains t)=fun _=>false:=by funext t;simp
 refine⟨[],x,⟨hp,by rw[hp];rfl⟩,by rw[e];exact hx,?_⟩
 have:∀l:List (Tok×List AV),wD [] l=[]:=fun l=>by simp[wD]
 rw[this];exact hR
@[go_sem] theorem zjF {P : Program} {pin : List Tok} {ts : List (Nat × Option TypeId)} {R : AV → List (Tok × List AV) → Prop} {S : St} : y9 P pin ts R .ret S = wo P pin ts R S := _root_.id rfl
@[go_sem] theorem zgy {P : Program} {pin : List Tok} {ts : List (Nat × Option TypeId)} {R : AV → List (Tok × List AV) → Prop} {S : St} : y9 P pin ts R .normal S = wo P pin ts R S := _root_.id rfl
theorem wrap64 [Gi] {x:Int}(h1: -9223372036854775808≤x)(h2:x≤9223372036854775807):IntKind.i64.wrap x=x:=by
 simp only[IntKind.wrap,IntKind.signed,IntKind.bits]
 simp
 omega
attribute [go_sem] zY Yd Option.map_some Option.map_none Y6 uE okC eqC zfb ze3 zd7 zcD zal Yc zbT zf6 VW uk Xw zfQ vU kd xW Wp Wt Wu St.itz itz j9 vY ZB vi sbD UY St.fz fz fz1 qE X5 un1 un2 unG St.ev St.get St.set St.kept look Yt zw jg qV St.qg dOK jF zkN Zv wm
attribute [go_sem] zdF Y5 XE XC xA uI Yx ptrEq kR uU Vv JR zW xH xL YE vF bad
attribute [go_sem] zf1 zcY uL xZ XG uO unA YH v7 W5 Qm Xu Qu Qq jx Yo xD wx UW Uy xu Yf sliceB UN zed zba ue yF yF.sl Option.bind_some Option.bind_none
attribute [go_sem] Ws Zg wW zgL places kT toP zfz zaY PV.cells PV.one PV.fits uG Zx zeb xS ug Un jY WA Z1 zL zbs uu zgm zeV Q8 sizedB zbb
attribute [go_sem] bzC yZ zaO zeE we vX zh5 zdI Ud Z9 jO ky ZX xF ZS W2 Zz zcG AV.ren u9 jt inM jK okM Zk ZZ ZE ku WZ wQ zbc xq uK QW kB
attribute [go_sem] St.fil AV.upd fil z6 qW ftt
theorem zh [Gi] {P:Program} {S:St} {f:FuncId} {args:List Operand} {dst:Option Nat} {K:St→Prop}(m:List (Tok×Tok)) {pin:List Tok} {as1:List AV} {rs:List (Tok×List AV)} {R:AV→List (Tok×List AV)→Prop}(hC:CR P f pin as1 rs R)
  (hm:okM (dst.getD S.n) m=true∧S.pin.all (ZZ (dst.getD S.n) m pin)=true∧dOK S dst) (ha:(Zz S m args).1∧(Zz S m args).2=as1) (hr:Zk S m m=rs)
  (hk:∀x rs',R x rs'→K ((wQ S (dst.getD S.n) m pin rs').qg dst (x.ren fun u=>some (jK (dst.getD S.n) m u)))):UO P S f args dst K:=by
 subst hr
 obtain⟨ha,rfl⟩:=ha
 exact⟨m,pin,R,hm,ha,hC,hk⟩
theorem zt {P:Program} {pin:List Tok} {ts:List (Nat×Option TypeId)} {R:AV→List (Tok×List AV)→Prop} {S:St}(kr:List Tok)(x:AV)(hp:S.pin=pin∧pin.all (fun t=>kr.contains t)=true)(hx:(zg P S ts).1∧leT ((zg P S ts).2.upd (AM.fil (fun t=>kr.contains t) ftt)) x)(hR:R x (wD kr (S.fil (fun t=>kr.contains t) ftt).rs)):wo P pin ts R S:=by
 obtain⟨rfl,hp⟩:=hp
 exact⟨kr,x,⟨rfl,hp⟩,hx,hR⟩
attribute [go_sem] wD List.getElem?_cons_zero
def St.ofR(rs:List (Tok×List AV)):St:={n:=0,nv:=0,vs:=[],ts:=[],rs:=rs}
theorem GS.Zr [Gi] {g:Gh} {w:World} {rs:List (Tok×List AV)}(h:GS g w rs) {d:Nat} {m:List (Tok×Tok)}(ok:okM d m=true):GS (g.Zr m) w (Zk (St.ofR rs) m m):=by
 refine⟨fun b u hk=>?_,fun b b' u hk hk'=>?_,fun b b' u hk hk'=>?_,fun b hb=>h.own b (fun e=>hb ?_),h.frb,fun b arr e=>⟨by show(g.K b).ren _=.prot;rw[(h.gl b arr e).1];rfl,(h.gl b arr e).2⟩⟩
 ·obtain⟨t,hk,hu⟩:=Kd.ZA.1 hk
  obtain⟨cs,hl,h0,arr,T,hb,hle,hc⟩:=h.roots b t hk
  refine⟨_,xt (S:=St.ofR rs) (ZM ok hu) hl,h0,arr,T,hb,by simpa using hle,fun j x hj=>?_⟩
  simp only[List.getElem?_map,Option.map_eq_some_iff]at hj
  obtain⟨y,hy,rfl⟩:=hj
  obtain⟨v,hv,h1,r⟩:=hc j y hy
  exact⟨v,hv,h1,za.ren (Ren.Zr g m) _ _ r⟩
 ·obtain⟨t,hk,hu⟩:=Kd.ZA.1 hk
  obtain⟨t',hk',hu'⟩:=Kd.ZA.1 hk'
  have e:=ZM ok hu
  rw[ZM ok hu']at e;injection e with e;subst e
  exact h.ur b b' _ hk hk'
 ·obtain⟨t,hk,hu⟩:=Kd.yu.1 hk
  obtain⟨t',hk',hu'⟩:=Kd.yu.1 hk'
  have e:=ZM ok hu
  rw[ZM ok hu']at e;injection e with e;subst e
  exact h.ut b b' _ hk hk'
 ·show(g.K b).ren _=.prot
  rw[e];rfl
theorem CR.ren [Gi] {P:Program} {f:FuncId} {pin:List Tok} {args:List AV} {rs:List (Tok×List AV)} {R R':AV→List (Tok×List AV)→Prop}(h:CR P f pin args rs R)(d:Nat)
  (hr:∀x rs',R x rs'→∃m,okM d m=true∧pin.all (fun t=>inM m t==some t)=true∧R' (x.ren (inM m)) (Zk (St.ofR rs') m m)):CR P f pin args rs R':=by
 intro w g vs h1 h2
 refine(h w g vs h1 h2).mono ?_
 rintro e w' ⟨v,x,rs',g',rfl,hR,hx,hG,hA⟩
 obtain⟨m,ok,hp,hR'⟩:=hr x rs' hR
 refine⟨v,_,_,g'.Zr m,rfl,hR',za.ren (Ren.Zr g' m) _ _ hx,hG.Zr ok,⟨fun b hb hk=>?_,hA.ext,hA.out,hA.mono,fun b t hk ht=>?_⟩⟩
 ·obtain⟨a1,a2,a3⟩:=hA.frame b hb hk
  exact⟨a1,a2,by show(g'.K b).ren _=.prot;rw[a3];rfl⟩
 ·have:=List.all_eq_true.1 hp t ht
  simp at this
  exact⟨Kd.ZA.2 ⟨t,(hA.pins b t hk ht).1,this⟩,(hA.pins b t hk ht).2⟩
attribute [go_sem] St.ofR leT leP
theorem Zb [Gi] {P:Program} {S:St} {dst:Option Nat} {x:Operand} {args:Array Operand} {argTypes:Array TypeId} {tt:TypeId} {pos:String} {after:Array Edge} {guard:Option (Nat×Bool)} {r:AV}(f:FuncId) {as1:List AV}
  (hC:CR P f [] as1 [] fun y rs=>rs=[]∧y=r) (hf:zbb (S.ev x)=some f) (hb:((P.funcs[f]?).map (·.body.isSome))=some true∧((P.funcs[f]?).map (·.name))≠some "runtime.NumGoroutine")
  (ha:(Zz S [] args.toList).1∧(Zz S [] args.toList).2=as1):kH P S ⟨dst,.call ⟨.value x,args,argTypes⟩,tt,pos,after,guard⟩ r:=by
 unfold kH
 simp only[hf]
 obtain⟨h1,rfl⟩:=ha
 exact⟨hb,h1,hC⟩
theorem Za [Gi] {P:Program} {S:St} {o:Oper} {c:Option Bool} {K:St→Prop}(x:AV)(hx:vr x=true)(hv:kz o=true)(hp:c≠some false→kH P S o x)(hk:dOK S o.dst∧K (S.qg o.dst (gv c x))):Us P S o c K:=
 ⟨x,⟨hx,hv,hp⟩,hk⟩
attribute [go_sem] gv xl bsD bsR YO zkt Q3 UZ hdr List.isEmpty_cons List.isEmpty_nil kz Zw Q9 Qd U5 jU
def qd {α:Type}(n:Nat)(c:List α):List α:=(List.replicate n c).flatten
theorem z7 {α:Type}(n:Nat)(c:List α):(qd n c).length=n*c.length:=by simp[qd]
end
end Go.AM
namespace Go.Proofs.YtfjdbbpimklecaaGreatDoor
section
open Go.AM
theorem mixed:Tryz.prog.follows .mixedOrders=true:=Tryz.checked.mixed
@[go_sem] theorem ty3 : ty Tryz.prog 3 = some ⟨.int .i64, 1, 8, some [.int .i64 0]⟩ := by kernel_rfl
@[go_sem] theorem ty4 : ty Tryz.prog 4 = some ⟨.bool, 1, 1, some [.bool false]⟩ := by kernel_rfl
@[go_sem] theorem ty5 : ty Tryz.prog 5 = some ⟨.int .u8, 1, 1, some [.int .u8 0]⟩ := by kernel_rfl
@[go_sem] theorem ty9 : ty Tryz.prog 9 = some ⟨.string, 1, 16, some [.str []]⟩ := by kernel_rfl
@[go_sem] theorem ty21 : ty Tryz.prog 21 = some ⟨.int .i32, 1, 4, some [.int .i32 0]⟩ := by kernel_rfl
@[go_sem] theorem ty24 : ty Tryz.prog 24 = some ⟨.slice 197, 1, 24, some [.opq (.slice none 0 0)]⟩ := by kernel_rfl
@[go_sem] theorem ty26 : ty Tryz.prog 26 = some ⟨.pointer 112, 1, 8, some [.opq (.pointer none)]⟩ := by kernel_rfl
@[go_sem] theorem ty28 : ty Tryz.prog 28 = some ⟨.pointer 158, 1, 8, some [.opq (.pointer none)]⟩ := by kernel_rfl
@[go_sem] theorem ty30 : ty Tryz.prog 30 = some ⟨Tryz.t29.desc, 2, 16, some [.int .i64 0, .int .i64 0]⟩ := by kernel_rfl
@[go_sem] theorem ty42 : ty Tryz.prog 42 = some ⟨Tryz.t41.desc, 3, 24, some [.opq (.pointer none), .int .i64 0, .int .i64 0]⟩ := by kernel_rfl
@[go_sem] theorem ty44 : ty Tryz.prog 44 = some ⟨.slice 45, 1, 24, some [.opq (.slice none 0 0)]⟩ := by kernel_rfl
@[go_sem] theorem ty45 : ty Tryz.prog 45 = some ⟨.slice 21, 1, 24, some [.opq (.slice none 0 0)]⟩ := by kernel_rfl
@[go_sem] theorem ty70 : ty Tryz.prog 70 = some ⟨.pointer 166, 1, 8, some [.opq (.pointer none)]⟩ := by kernel_rfl
@[go_sem] theorem ty82 : ty Tryz.prog 82 = some ⟨.slice 9, 1, 24, some [.opq (.slice none 0 0)]⟩ := by kernel_rfl
@[go_sem] theorem ty88 : ty Tryz.prog 88 = some ⟨.slice 90, 1, 24, some [.opq (.slice none 0 0)]⟩ := by kernel_rfl
@[go_sem] theorem ty90 : ty Tryz.prog 90 = some ⟨Tryz.t89.desc, 4, 40, some [.int .i64 0, .int .i64 0, .int .i64 0, .str []]⟩ := by kernel_rfl
@[go_sem] theorem ty96 : ty Tryz.prog 96 = some ⟨.slice 130, 1, 24, some [.opq (.slice none 0 0)]⟩ := by kernel_rfl
@[go_sem] theorem ty104 : ty Tryz.prog 104 = some ⟨.pointer 278, 1, 8, some [.opq (.pointer none)]⟩ := by kernel_rfl
@[go_sem] theorem ty106 : ty Tryz.prog 106 = some ⟨.pointer 292, 1, 8, some [.opq (.pointer none)]⟩ := by kernel_rfl
@[go_sem] theorem ty108 : ty Tryz.prog 108 = some ⟨.map 119 21, 1, 8, some [.opq (.map none)]⟩ := by kernel_rfl
@[go_sem] theorem ty109 : ty Tryz.prog 109 = some ⟨.map 21 4, 1, 8, some [.opq (.map none)]⟩ := by kernel_rfl
@[go_sem] theorem ty110 : ty Tryz.prog 110 = some ⟨.pointer 223, 1, 8, some [.opq (.pointer none)]⟩ := by kernel_rfl
@[go_sem] theorem ty112 : ty Tryz.prog 112 = some ⟨Tryz.t111.desc, 7, 56, some [.opq (.pointer none), .opq (.pointer none), .opq (.pointer none), .opq (.pointer none), .opq (.pointer none), .opq (.map none), .opq (.map none)]⟩ := by kernel_rfl
@[go_sem] theorem ty113 : ty Tryz.prog 113 = some ⟨.slice 121, 1, 24, some [.opq (.slice none 0 0)]⟩ := by kernel_rfl
@[go_sem] theorem ty114 : ty Tryz.prog 114 = some ⟨.slice 117, 1, 24, some [.opq (.slice none 0 0)]⟩ := by kernel_rfl
@[go_sem] theorem ty117 : ty Tryz.prog 117 = some ⟨Tryz.t116.desc, 4, 32, some [.int .i64 0, .int .i64 0, .int .i64 0, .int .i64 0]⟩ := by kernel_rfl
@[go_sem] theorem ty119 : ty Tryz.prog 119 = some ⟨Tryz.t118.desc, 2, 8, some [.int .i32 0, .int .i32 0]⟩ := by kernel_rfl
@[go_sem] theorem ty121 : ty Tryz.prog 121 = some ⟨Tryz.t120.desc, 4, 24, some [.int .i64 0, .int .i64 0, .int .i32 0, .int .i32 0]⟩ := by kernel_rfl
@[go_sem] theorem ty130 : ty Tryz.prog 130 = some ⟨Tryz.t89.desc, 4, 40, some [.int .i64 0, .int .i64 0, .int .i64 0, .str []]⟩ := by kernel_rfl
@[go_sem] theorem ty133 : ty Tryz.prog 133 = some ⟨.slice 182, 1, 24, some [.opq (.slice none 0 0)]⟩ := by kernel_rfl
@[go_sem] theorem ty147 : ty Tryz.prog 147 = some ⟨.slice 3, 1, 24, some [.opq (.slice none 0 0)]⟩ := by kernel_rfl
@[go_sem] theorem ty156 : ty Tryz.prog 156 = some ⟨.slice 159, 1, 24, some [.opq (.slice none 0 0)]⟩ := by kernel_rfl
@[go_sem] theorem ty158 : ty Tryz.prog 158 = some ⟨Tryz.t157.desc, 3, 40, some [.int .i64 0, .int .i64 0, .opq (.slice none 0 0)]⟩ := by kernel_rfl
@[go_sem] theorem ty159 : ty Tryz.prog 159 = some ⟨Tryz.t127.desc, 2, 24, some [.str [], .int .i64 0]⟩ := by kernel_rfl
@[go_sem] theorem ty166 : ty Tryz.prog 166 = some ⟨Tryz.t165.desc, 6, 48, some [.opq (.pointer none), .opq (.pointer none), .int .i64 0, .int .i64 0, .bool false, .int .i64 0]⟩ := by kernel_rfl
@[go_sem] theorem ty182 : ty Tryz.prog 182 = some ⟨Tryz.t127.desc, 2, 24, some [.str [], .int .i64 0]⟩ := by kernel_rfl
@[go_sem] theorem ty186 : ty Tryz.prog 186 = some ⟨.slice 5, 1, 24, some [.opq (.slice none 0 0)]⟩ := by kernel_rfl
@[go_sem] theorem ty190 : ty Tryz.prog 190 = some ⟨Tryz.t189.desc, 1, 16, some [.opq .nilIface]⟩ := by kernel_rfl
@[go_sem] theorem ty197 : ty Tryz.prog 197 = some ⟨Tryz.t196.desc, 5, 40, some [.int .i64 0, .int .i64 0, .int .i64 0, .int .i64 0, .int .i64 0]⟩ := by kernel_rfl
@[go_sem] theorem ty198 : ty Tryz.prog 198 = some ⟨.slice 200, 1, 24, some [.opq (.slice none 0 0)]⟩ := by kernel_rfl
@[go_sem] theorem ty200 : ty Tryz.prog 200 = some ⟨Tryz.t199.desc, 3, 24, some [.int .i64 0, .int .i64 0, .int .i64 0]⟩ := by kernel_rfl
@[go_sem] theorem ty202 : ty Tryz.prog 202 = some ⟨.array 4 3, 4, 32, some [.int .i64 0, .int .i64 0, .int .i64 0, .int .i64 0]⟩ := by kernel_rfl
@[go_sem] theorem ty203 : ty Tryz.prog 203 = some ⟨.array 4 114, 4, 96, some [.opq (.slice none 0 0), .opq (.slice none 0 0), .opq (.slice none 0 0), .opq (.slice none 0 0)]⟩ := by kernel_rfl
@[go_sem] theorem ty204 : ty Tryz.prog 204 = some ⟨.slice 214, 1, 24, some [.opq (.slice none 0 0)]⟩ := by kernel_rfl
@[go_sem] theorem ty206 : ty Tryz.prog 206 = some ⟨.slice 114, 1, 24, some [.opq (.slice none 0 0)]⟩ := by kernel_rfl
@[go_sem] theorem ty207 : ty Tryz.prog 207 = some ⟨.array 4 4, 4, 4, some [.bool false, .bool false, .bool false, .bool false]⟩ := by kernel_rfl
@[go_sem] theorem ty212 : ty Tryz.prog 212 = some ⟨Tryz.t211.desc, 4, 4, some [.bool false, .bool false, .bool false, .bool false]⟩ := by kernel_rfl
@[go_sem] theorem ty214 : ty Tryz.prog 214 = some ⟨Tryz.t213.desc, 6, 24, some [.int .i64 0, .int .i64 0, .bool false, .bool false, .bool false, .bool false]⟩ := by kernel_rfl
@[go_sem] theorem ty221 : ty Tryz.prog 221 = some ⟨.slice 232, 1, 24, some [.opq (.slice none 0 0)]⟩ := by kernel_rfl
@[go_sem] theorem ty223 : ty Tryz.prog 223 = some ⟨Tryz.t222.desc, 3, 56, some [.int .i64 0, .opq (.slice none 0 0), .opq (.slice none 0 0)]⟩ := by kernel_rfl
@[go_sem] theorem ty225 : ty Tryz.prog 225 = some ⟨.map 232 3, 1, 8, some [.opq (.map none)]⟩ := by kernel_rfl
@[go_sem] theorem ty226 : ty Tryz.prog 226 = some ⟨.map 119 3, 1, 8, some [.opq (.map none)]⟩ := by kernel_rfl
@[go_sem] theorem ty228 : ty Tryz.prog 228 = some ⟨Tryz.t227.desc, 3, 24, some [.opq (.pointer none), .opq (.map none), .opq (.map none)]⟩ := by kernel_rfl
@[go_sem] theorem ty232 : ty Tryz.prog 232 = some ⟨.array 128 119, 256, 1024, some (qd 128 [.int .i32 0, .int .i32 0])⟩ := by kernel_rfl
@[go_sem] theorem ty258 : ty Tryz.prog 258 = some ⟨Tryz.t257.desc, 5, 24, some [.int .i64 0, .int .i64 0, .int .u8 0, .int .u8 0, .int .i32 0]⟩ := by kernel_rfl
@[go_sem] theorem ty264 : ty Tryz.prog 264 = some ⟨.map 5 3, 1, 8, some [.opq (.map none)]⟩ := by kernel_rfl
@[go_sem] theorem ty276 : ty Tryz.prog 276 = some ⟨.slice 285, 1, 24, some [.opq (.slice none 0 0)]⟩ := by kernel_rfl
@[go_sem] theorem ty278 : ty Tryz.prog 278 = some ⟨Tryz.t277.desc, 3, 56, some [.int .i64 0, .opq (.slice none 0 0), .opq (.slice none 0 0)]⟩ := by kernel_rfl
@[go_sem] theorem ty280 : ty Tryz.prog 280 = some ⟨.map 285 3, 1, 8, some [.opq (.map none)]⟩ := by kernel_rfl
@[go_sem] theorem ty281 : ty Tryz.prog 281 = some ⟨.map 3 3, 1, 8, some [.opq (.map none)]⟩ := by kernel_rfl
@[go_sem] theorem ty283 : ty Tryz.prog 283 = some ⟨Tryz.t282.desc, 3, 24, some [.opq (.pointer none), .opq (.map none), .opq (.map none)]⟩ := by kernel_rfl
@[go_sem] theorem ty285 : ty Tryz.prog 285 = some ⟨.array 128 3, 128, 1024, some (qd 128 [.int .i64 0])⟩ := by kernel_rfl
@[go_sem] theorem ty287 : ty Tryz.prog 287 = some ⟨.map 3 4, 1, 8, some [.opq (.map none)]⟩ := by kernel_rfl
@[go_sem] theorem ty290 : ty Tryz.prog 290 = some ⟨.slice 301, 1, 24, some [.opq (.slice none 0 0)]⟩ := by kernel_rfl
@[go_sem] theorem ty292 : ty Tryz.prog 292 = some ⟨Tryz.t291.desc, 3, 56, some [.int .i64 0, .opq (.slice none 0 0), .opq (.slice none 0 0)]⟩ := by kernel_rfl
@[go_sem] theorem ty294 : ty Tryz.prog 294 = some ⟨.map 301 3, 1, 8, some [.opq (.map none)]⟩ := by kernel_rfl
@[go_sem] theorem ty295 : ty Tryz.prog 295 = some ⟨.map 212 3, 1, 8, some [.opq (.map none)]⟩ := by kernel_rfl
@[go_sem] theorem ty297 : ty Tryz.prog 297 = some ⟨Tryz.t296.desc, 3, 24, some [.opq (.pointer none), .opq (.map none), .opq (.map none)]⟩ := by kernel_rfl
@[go_sem] theorem ty301 : ty Tryz.prog 301 = some ⟨.array 128 212, 512, 512, some (qd 128 [.bool false, .bool false, .bool false, .bool false])⟩ := by kernel_rfl
@[go_sem] theorem ty306 : ty Tryz.prog 306 = some ⟨.int .u64, 1, 8, some [.int .u64 0]⟩ := by kernel_rfl
@[go_sem] theorem ty311 : ty Tryz.prog 311 = some ⟨Tryz.t310.desc, 5, 40, some [.bool false, .int .i64 0, .int .i64 0, .int .i64 0, .bool false]⟩ := by kernel_rfl
@[go_sem] theorem ty342 : ty Tryz.prog 342 = some ⟨.int .u64, 1, 8, some [.int .u64 0]⟩ := by kernel_rfl
@[go_sem] theorem zlI : UR Tryz.prog 21 = some (.int .i32 0) := by kernel_rfl
@[go_sem] theorem zp4 : UR Tryz.prog 4 = some (.bool false) := by kernel_rfl
@[go_sem] theorem zp3 : UR Tryz.prog 3 = some (.int .i64 0) := by kernel_rfl
@[go_sem] theorem ck30 : Qk Tryz.prog 30 = some [.i .i64, .i .i64] := by kernel_rfl
@[go_sem] theorem ck119 : Qk Tryz.prog 119 = some [.i .i32, .i .i32] := by kernel_rfl
@[go_sem] theorem ck159 : Qk Tryz.prog 159 = some [.s, .i .i64] := by kernel_rfl
@[go_sem] theorem ck207 : Qk Tryz.prog 207 = some [.b, .b, .b, .b] := by kernel_rfl
@[go_sem] theorem kk3 : Ze Tryz.prog 3 = some (false, [.i .i64]) := by kernel_rfl
@[go_sem] theorem kk5 : Ze Tryz.prog 5 = some (false, [.i .u8]) := by kernel_rfl
@[go_sem] theorem zlL : Ze Tryz.prog 21 = some (false, [.i .i32]) := by kernel_rfl
@[go_sem] theorem zlB : Ze Tryz.prog 119 = some (true, [.i .i32, .i .i32]) := by kernel_rfl
@[go_sem] theorem zlz : Ze Tryz.prog 212 = some (true, [.b, .b, .b, .b]) := by kernel_rfl
@[go_sem] theorem zlD : Ze Tryz.prog 232 = some (true, qd 128 [.i .i32, .i .i32]) := wU ty232 (by kernel_rfl) (by kernel_rfl) ty119 (by decide)
@[go_sem] theorem zlC : Ze Tryz.prog 285 = some (true, qd 128 [.i .i64]) := wU ty285 (by kernel_rfl) (by kernel_rfl) ty3 (by decide)
@[go_sem] theorem zlF : Ze Tryz.prog 301 = some (true, qd 128 [.b, .b, .b, .b]) := wU ty301 (by kernel_rfl) (by kernel_rfl) ty212 (by decide)
attribute [go_sem] Tryz.t7 Tryz.t13 Tryz.t18 Tryz.t29 Tryz.t31 Tryz.t37 Tryz.t41 Tryz.t46 Tryz.t50 Tryz.t54 Tryz.t63 Tryz.t74 Tryz.t89 Tryz.t111 Tryz.t116 Tryz.t118 Tryz.t120 Tryz.t127 Tryz.t157 Tryz.t162 Tryz.t165 Tryz.t167 Tryz.t187 Tryz.t196 Tryz.t199 Tryz.t211 Tryz.t213 Tryz.t222 Tryz.t227 Tryz.t257 Tryz.t277 Tryz.t282 Tryz.t291 Tryz.t296 Tryz.t310 Tryz.t380 Tryz.t388 Tryz.t390 Tryz.t393 Tryz.t400
end
end Go.Proofs.YtfjdbbpimklecaaGreatDoor
namespace Go.AM
section
theorem UO.mono [Gi] {P:Program} {S:St} {f:FuncId} {args:List Operand} {dst:Option Nat} {K K':St→Prop}(hk:∀S,K S→K' S)(h:UO P S f args dst K):UO P S f args dst K':=by
 obtain⟨m,pin,R,h1,h2,h3,h4⟩:=h
 exact⟨m,pin,R,h1,h2,h3,fun x rs' hr=>hk _ (h4 x rs' hr)⟩
theorem zcj.mono [Gi] {P:Program} {S:St} {f:FuncId} {cs:List AV} {args:List Operand} {dst:Option Nat} {K K':St→Prop}(hk:∀S,K S→K' S)(h:zcj P S f cs args dst K):zcj P S f cs args dst K':=by
 obtain⟨m,pin,R,h1,h2,h3,h4⟩:=h
 exact⟨m,pin,R,h1,h2,h3,fun x rs' hr=>hk _ (h4 x rs' hr)⟩
theorem zaA [Gi] {P:Program} {S:St} {o:Oper} {K K':St→Prop}(hk:∀S,K S→K' S)(h:W2 P S o K):W2 P S o K':=by
 unfold W2 at h⊢
 split at h
 ·split at h
  ·split at h
   ·exact⟨h.1,h.2.mono hk⟩
   ·split at h
    ·exact⟨h.1,h.2.mono hk⟩
    ·exact h.elim
  ·exact h.elim
 ·split at h
  ·exact⟨h.1,fun e=>hk _ (h.2.1 e),fun i hi=>hk _ (h.2.2 i hi)⟩
  ·exact h.elim
 ·exact h.elim
theorem Jc [Gi] {P:Program} {S:St} {o:Oper} {K K':St→Prop}(hk:∀S,K S→K' S)(h:Vo P S o K):Vo P S o K':=by
 unfold Vo at h⊢
 split at h
 ·exact⟨h.1,hk _ h.2⟩
 ·exact zaA hk h
theorem VO [Gi] {P:Program} {S:St} {o:Oper} {c:Option Bool} {K K':St→Prop}(hk:∀S,K S→K' S)(h:QQ P S o c K):QQ P S o c K':=by
 unfold QQ at h⊢
 split at h
 ·split at h
  ·exact⟨h.1,hk _ h.2⟩
  ·exact⟨h.1,hk _ h.2⟩
 ·split at h
  ·exact Jc hk h
  ·exact⟨fun e=>Jc hk (h.1 e),fun e=>⟨(h.2 e).1,hk _ (h.2 e).2⟩⟩
theorem wh [Gi] {P:Program} {ops:Array Oper}:∀{l:List Oper} {S:St} {K K':St→Prop},(∀S,K S→K' S)→ZW P ops l S K→ZW P ops l S K'
 | [],S,K,K',hk,h=>hk _ h
 |o::l,S,K,K',hk,h=>by
  unfold ZW at h⊢
  split at h
  ·exact VO (fun S' h'=>wh hk h') h
  ·exact h.elim
theorem WB [Gi] {P:Program} {ops:Array Oper}:∀{l:List Oper} {S:St} {K K':St→Prop},(∀S,K S→K' S)→jI P ops l S K→jI P ops l S K'
 | [],S,K,K',hk,h=>hk _ h
 |o::l,S,K,K',hk,h=>by
  unfold jI at h⊢
  split
  ·rename_i hh
   rw[if_pos hh]at h
   split at h
   ·obtain⟨x,h1,h2,h3⟩:=h
    exact⟨x,h1,h2,WB hk h3⟩
   ·exact h.elim
  ·rename_i hh
   rw[if_neg hh]at h
   exact wh hk h
mutual
theorem KP [Gi] {P:Program} {ops:Array Oper} {K K':St→Prop}(hk:∀S,K S→K' S):∀(t:OT) {S:St},jo P ops K t S→jo P ops K' t S
 |.mk [],S,h=>by simp only[jo]at h⊢;exact hk _ h
 |.mk (x::l),S,h=>by simp only[jo]at h⊢;exact V2 hk (x::l) h
 |.now i c t,S,h=>by
  simp only[jo]at h⊢
  unfold Xr at h⊢
  split
  ·rename_i o ho
   simp only[ho]at h
   unfold zc7 at h⊢
   split
   ·rename_i r hr
    simp only[hr]at h
    exact⟨h.1,h.2.1,KP hk t h.2.2⟩
   ·rename_i hr
    simp only[hr]at h
  ·rename_i ho
   simp only[ho]at h
theorem V2 [Gi] {P:Program} {ops:Array Oper} {K K':St→Prop}(hk:∀S,K S→K' S):∀(l:List (Nat×OT)) {S:St},jX P ops K l S→jX P ops K' l S
 | [],S,_=>by simp only[jX]
 |(i,t)::l,S,h=>by
  simp only[jX]at h⊢
  refine⟨?_,V2 hk l h.2⟩
  have h1:=h.1
  cases ho:ops[i]? with
  |none=>rw[ho]at h1;exact h1.elim
  |some o=>
   rw[ho]at h1
   simp only at h1⊢
   cases hg:zY ops S o with
   |none=>rw[hg]at h1;exact h1.2.elim
   |some c=>rw[hg]at h1;exact⟨h1.1,VO (fun S' h'=>KP hk t h') h1.2⟩
end
theorem Qi [Gi] {P:Program} {D:List Nat}:∀(c:Code) {Q Q':Exit→St→Prop} {S:St},(∀e S,Q e S→Q' e S)→wpA P D c Q S→wpA P D c Q' S
 |.skip,Q,Q',S,hq,h=>by simp only[wpA]at h⊢;exact hq _ _ h
 |.region id ops draw,Q,Q',S,hq,h=>by
  simp only[wpA]at h⊢
  split
  ·rename_i hc;rw[if_pos hc]at h;exact zar (fun S h=>hq _ _ h) h
  rename_i hl0
  rw[if_neg hl0]at h
  split
  ·rename_i hc;rw[if_pos hc]at h
   unfold lfA at h⊢
   split
   ·rename_i hd;rw[if_pos hd]at h;exact WB (fun S h=>hq _ _ h) h
   ·rename_i hd;rw[if_neg hd]at h;exact zbB (fun S h=>hq _ _ h) h
  ·rename_i hl
   rw[if_neg hl]at h
   split
   ·rename_i hc;rw[if_pos hc]at h;exact WB (fun S h=>hq _ _ h) h
   ·rename_i hc;rw[if_neg hc]at h;exact wh (fun S h=>hq _ _ h) h
 |.seq x y,Q,Q',S,hq,h=>by
  simp only[wpA]at h⊢
  refine Qi x (fun e S' h'=>?_) h
  cases e with
  |normal=>exact Qi y hq h'
  |_=>exact hq _ _ h'
 |.cond c x y,Q,Q',S,hq,h=>by
  simp only[wpA]at h⊢
  split at h
  ·exact⟨fun e=>Qi x hq (h.1 e),fun e=>Qi y hq (h.2 e)⟩
  ·exact h.elim
 |.block id c,Q,Q',S,hq,h=>by
  simp only[wpA]at h⊢
  refine Qi c (fun e S' h'=>?_) h
  cases e with
  |exit i=>
   simp only[]at h'⊢
   split
   ·rename_i hi;rw[if_pos hi]at h';exact hq _ _ h'
   ·rename_i hi;rw[if_neg hi]at h';exact hq _ _ h'
  |_=>exact hq _ _ h'
 |.loop c,Q,Q',S,hq,h=>by
  simp only[wpA]at h⊢
  obtain⟨ι,st,m,h0,hr⟩:=h
  refine⟨ι,st,m,h0,fun i=>Qi c (fun e S' h'=>?_) (hr i)⟩
  cases e with
  |normal=>exact h'
  |_=>exact hq _ _ h'
 |.exit id,Q,Q',S,hq,h=>by simp only[wpA]at h⊢;exact hq _ _ h
 |.ret,Q,Q',S,hq,h=>by simp only[wpA]at h⊢;exact hq _ _ h
 |.rangeFunc ..,Q,Q',S,hq,h=>by simp only[wpA]at h
 |.scope _,Q,Q',S,hq,h=>by simp only[wpA]at h
 |.label _,Q,Q',S,hq,h=>by simp only[wpA]at h
 |.goto _,Q,Q',S,hq,h=>by simp only[wpA]at h
 |.refuse _,Q,Q',S,hq,h=>by simp only[wpA]at h
def zhz {ι:Type}(st:ι→St)(Q:Exit→St→Prop):Exit→St→Prop:=fun e S=>match e with|.normal=>∃i,S=st i|e=>Q e S
@[go_sem] theorem zi8 {ι : Type} {st : ι → St} {Q : Exit → St → Prop} {S : St} {k : Nat} : zhz st Q (.exit k) S = Q (.exit k) S := rfl
@[go_sem] theorem zjB {ι : Type} {st : ι → St} {Q : Exit → St → Prop} {S : St} : zhz st Q .ret S = Q .ret S := rfl
theorem zl:∀l:List AV,leL l l
 | []=>trivial
 |x::l=>⟨zfT x,zl l⟩
attribute [go_sem] has
end
end Go.AM
