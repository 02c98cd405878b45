/- A part of the proof of this seat's statements, by an abstract machine: what each operation does to values, and what the law's functions compute. Conditions: as each law says. -/
import Derived.Test.YtjefahhmkcfiiaaGreatT15
import Derived.KernelRfl
import Derived.Test.YtjefahhmkcfiiaaGreatChecked
import Derived.Eval
section
namespace Go.AM
def zoC [Gi](P:Program)(ops:Array Oper)(rest:List Oper)(K:St→Prop):St→Prop:=fun S=>Qp P ops rest S K
def zgC [Gi](P:Program)(D:List Nat)(y:Code)(Q:Exit→St→Prop):Exit→St→Prop:=fun e S=>match e with|.normal=>wpA P D y Q S|e=>Q e S
def zjk(id:Nat)(Q:Exit→St→Prop):Exit→St→Prop:=fun e S=>match e with|.exit i=>if i=id then Q .normal S else Q (.exit i) S|e=>Q e S
def VL [Gi](P:Program)(S:St)(o:Oper)(K:St→Prop):Option (Option Bool)→Prop
 |some c=>wc P S o c K
 |none=>False
def Jn [Gi](P:Program)(S:St)(o:Oper)(K:St→Prop)(c:Option Bool):Option PR→Prop
 |some r=>match c with
  |none=>(r.1∧dOK S o.dst)∧K (S.qP o.dst r.2)
  |some c=>((c=true→r.1)∧dOK S o.dst)∧K (S.qP o.dst (.gd c r.2))
 |none=>match c with
  |none=>J2 P S o K
  |some c=>(c=true→J2 P S o K)∧(c=false→dOK S o.dst∧K (S.qP o.dst (.gd false .zW)))
def zbO [Gi](P:Program)(S:St)(o:Oper)(K:St→Prop):Option (Prop×St)→Prop
 |some r=>r.1∧K r.2
 |none=>JV P S o K
def Wc [Gi](P:Program)(D:List Nat)(x y:Code)(Q:Exit→St→Prop)(S:St):AV→Prop
 |.p (.bool b)=>(b=true→wpA P D x Q S)∧(b=false→wpA P D y Q S)
 |_=>False
section
variable {P:Program} {D:List Nat} {ops:Array Oper} {S:St} {K:St→Prop} {Q:Exit→St→Prop}
@[go_sem] theorem zpH [Gi] : Qp P ops [] S K = K S := _root_.id rfl
@[go_sem] theorem zo6 [Gi] {o : Oper} {rest : List Oper} : Qp P ops (o :: rest) S K = VL P S o (zoC P ops rest K) (qZ ops S o) := by
 simp only[Qp];unfold VL;split<;>simp_all;rfl
@[go_sem] theorem zpG [Gi] {rest : List Oper} : zoC P ops rest K S = Qp P ops rest S K := _root_.id rfl
@[go_sem] theorem znk [Gi] {o : Oper} {c : Option Bool} : VL P S o K (some c) = Jn P S o K c (ZI P S o) := by
 unfold VL wc Jn;rfl
@[go_sem] theorem znT [Gi] {o : Oper} {c : Prop} {x : AV} : Jn P S o K none (some (c, x)) = ((c ∧ dOK S o.dst) ∧ K (S.qP o.dst x)) := rfl
@[go_sem] theorem zpF [Gi] {o : Oper} {b : Bool} {c : Prop} {x : AV} : Jn P S o K (some b) (some (c, x)) = (((b = true → c) ∧ dOK S o.dst) ∧ K (S.qP o.dst (.gd b x))) := rfl
@[go_sem] theorem zo1 [Gi] {o : Oper} : Jn P S o K none none = zbO P S o K (zdE P S o) := by
 unfold Jn J2 zbO;rfl
@[go_sem] theorem zns [Gi] {o : Oper} {b : Bool} : Jn P S o K (some b) none = ((b = true → zbO P S o K (zdE P S o)) ∧ (b = false → dOK S o.dst ∧ K (S.qP o.dst (.gd false .zW)))) := by
 unfold Jn J2 zbO;rfl
@[go_sem] theorem zoq [Gi] {o : Oper} {c : Prop} {S' : St} : zbO P S o K (some (c, S')) = (c ∧ K S') := rfl
@[go_sem] theorem znX [Gi] {o : Oper} : zbO P S o K none = JV P S o K := rfl
@[go_sem] theorem zpp [Gi] : wpA P D .skip Q S = Q .normal S := _root_.id rfl
@[go_sem] theorem znW [Gi] {id : Nat} {l : List Oper} : wpA P D (.region id l.toArray false) Q S = Qp P l.toArray l { S with ts := [] } (Q .normal) := _root_.id rfl
def zeB [Gi](P:Program)(l:List Oper)(K:St→Prop)(S:St):Bool→Prop
 |true=>uG P l.toArray l (Us P l S) K
 |false=>Qp P l.toArray l S K
def zeE [Gi](P:Program)(l:List Oper)(K:St→Prop)(S:St):Bool→Bool→Prop
 |true,_=>UF P l.toArray S K
 |false,c=>zeB P l K S c
def ze6 [Gi](P:Program)(l:List Oper)(K:St→Prop)(S:St):Bool→Bool→Bool→Prop
 |true,_,_=>zhE P l.toArray K S
 |false,b,c=>zeE P l K S b c
@[go_sem] theorem znr [Gi] {id : Nat} {l : List Oper} : wpA P D (.region id l.toArray true) Q S = ze6 P l (Q .normal) { S with ts := [] } (D.contains (id + 200000)) (D.contains (id + 100000)) (D.contains id) := by
 unfold ze6 zeE zeB
 simp only[wpA,Bool.true_and]
 cases D.contains (id+200000)<;>cases D.contains (id+100000)<;>cases D.contains id<;>rfl
@[go_sem] theorem zny [Gi] {l : List Oper} {K : St → Prop} {b c : Bool} : ze6 P l K S false b c = zeE P l K S b c := _root_.id rfl
theorem Zq [Gi] {l:List Oper} {K:St→Prop} {b c:Bool}(t:OT)(h1:(Region.noSelect l.toArray&&okT l.toArray l.toArray.size (Array.replicate l.toArray.size false) t)=true)(h2:kT P l.toArray K t S):ze6 P l K S true b c:=⟨t,K,h1,h2,fun _ h=>.inl h⟩
theorem zf8 [Gi] {l:List Oper} {K:St→Prop} {b c:Bool}(t:OT)(S1:St)(h1:(Region.noSelect l.toArray&&okT l.toArray l.toArray.size (Array.replicate l.toArray.size false) t)=true)(h2:kT P l.toArray (fun S'=>LeS S' S1) t S)(h3:K S1):ze6 P l K S true b c:=⟨t,_,h1,h2,fun _ h=>.inr ⟨S1,.inl h,h3⟩⟩
def stepT [Gi](P:Program)(ops:Array Oper)(S:St)(K:St→Prop):Option Oper→Prop
 |some o=>zih (ZI P S o) (zbZ o)∧VL P S o K (qZ ops S o)
 |none=>False
def zlE [Gi](P:Program)(ops:Array Oper)(K:St→Prop)(t:OT):St→Prop:=fun S=>kT P ops K t S
@[go_sem] theorem zoS [Gi] {ops : Array Oper} {K : St → Prop} {t : OT} : zlE P ops K t S = kT P ops K t S := _root_.id rfl
@[go_sem] theorem zpi [Gi] {ops : Array Oper} {K : St → Prop} {i c : Nat} {t : OT} : kT P ops K (.now i c t) S = zlW P S c (zlE P ops K t) ops[i]? := by simp only [kT]; rfl
@[go_sem] theorem zo9 {K : St → Prop} {c : Nat} {o : Oper} : zlW P S c K (some o) = zjY P S o c K (ZI P S o) := rfl
@[go_sem] theorem zoO {K : St → Prop} {c : Nat} {o : Oper} {p : Prop} {x : AV} : zjY P S o c K (some (p, x)) = ((p ∧ dOK S o.dst) ∧ zjq c (uP S o x) (US o || X7 x) ∧ K (S.qP o.dst x)) := rfl
@[go_sem] theorem zqF {a b : Bool} : zjq 0 a b = True := rfl
@[go_sem] theorem zqB {a b : Bool} : zjq 1 a b = ((a || b) = true) := rfl
@[go_sem] theorem zqE {a b : Bool} : zjq 2 a b = (a = true) := rfl
@[go_sem] theorem zqa [Gi] {ops : Array Oper} {K : St → Prop} : kT P ops K (.mk []) S = K S := by simp only [kT]
@[go_sem] theorem zoV [Gi] {ops : Array Oper} {K : St → Prop} {x : Nat × OT} {l : List (Nat × OT)} : kT P ops K (.mk (x :: l)) S = xy P ops K (x :: l) S := by simp only [kT]
@[go_sem] theorem zpb [Gi] {ops : Array Oper} {K : St → Prop} : xy P ops K [] S = True := by simp only [xy]
@[go_sem] theorem zn6 [Gi] {ops : Array Oper} {K : St → Prop} {i : Nat} {t : OT} {l : List (Nat × OT)} : xy P ops K ((i, t) :: l) S = (stepT P ops S (zlE P ops K t) ops[i]? ∧ xy P ops K l S) := by
 simp only[xy]
 cases ops[i]? with
 |none=>rfl
 |some o=>simp only[stepT,VL];cases qZ ops S o<;>rfl
@[go_sem] theorem zoJ [Gi] {ops : Array Oper} {K : St → Prop} {o : Oper} : stepT P ops S K (some o) = (zih (ZI P S o) (zbZ o) ∧ VL P S o K (qZ ops S o)) := rfl
@[go_sem] theorem zoF {o : Option PR} : zih o false = True := rfl
@[go_sem] theorem znE [Gi] {l : List Oper} {c : Bool} : zeE P l K S true c = UF P l.toArray S K := _root_.id rfl
@[go_sem] theorem zni [Gi] {l : List Oper} {c : Bool} : zeE P l K S false c = zeB P l K S c := _root_.id rfl
def zkp(P:Program)(t:Tok)(ov:Nat)(rest:List Oper)(K:St→Prop):Option (Prop×St)→Prop
 |some r=>r.1∧xN P t ov rest r.2 K
 |none=>False
def zcw(P:Program)(t:Tok)(ov:Nat)(S:St)(o:Oper)(rest:List Oper)(K:St→Prop):Option PR→Prop
 |some r=>(r.1∧(UY o || X7 r.2)=true∧dOK S o.dst)∧opsL P t ov rest (S.qP o.dst r.2) K
 |none=>False
def zhB(P:Program)(t:Tok)(ov:Nat)(S:St)(o:Oper)(rest:List Oper)(K:St→Prop):Bool→Prop
 |true=>zcw P t ov S o rest K (ZI P (UI t S) o)
 |false=>xN P t ov (o::rest) S K
@[go_sem] theorem zpC {t : Tok} {ov : Nat} : opsL P t ov [] S K = K S := rfl
@[go_sem] theorem zo5 {t : Tok} {ov : Nat} {o : Oper} {rest : List Oper} : opsL P t ov (o :: rest) S K = zhB P t ov S o rest K (Qv o) := by
 unfold zhB zcw
 simp only[opsL]
 cases Qv o
 ·rfl
 ·simp only[if_true]
  cases ZI P (UI t S) o<;>rfl
@[go_sem] theorem zoY {t : Tok} {ov : Nat} : xN P t ov [] S K = K S := rfl
@[go_sem] theorem zot {t : Tok} {ov : Nat} {o : Oper} {rest : List Oper} : xN P t ov (o :: rest) S K = zkp P t ov rest K (zdq P t ov S o) := by
 unfold zkp
 simp only[xN]
 cases zdq P t ov S o<;>rfl
@[go_sem] theorem zop {t : Tok} {ov : Nat} {o : Oper} {rest : List Oper} : zhB P t ov S o rest K true = zcw P t ov S o rest K (ZI P (UI t S) o) := rfl
@[go_sem] theorem znB {t : Tok} {ov : Nat} {o : Oper} {rest : List Oper} : zhB P t ov S o rest K false = xN P t ov (o :: rest) S K := rfl
@[go_sem] theorem znl {t : Tok} {ov : Nat} {o : Oper} {rest : List Oper} {r : PR} : zcw P t ov S o rest K (some r) = ((r.1 ∧ (UY o || X7 r.2) = true ∧ dOK S o.dst) ∧ opsL P t ov rest (S.qP o.dst r.2) K) := rfl
@[go_sem] theorem zoa {t : Tok} {ov : Nat} {rest : List Oper} {r : Prop × St} : zkp P t ov rest K (some r) = (r.1 ∧ xN P t ov rest r.2 K) := rfl
attribute [go_sem] uP zak zbZ US
attribute [go_sem] UG UY X7 zdr zkb UI zdq UF
@[go_sem] theorem zow [Gi] {l : List Oper} : zeB P l K S true = uG P l.toArray l (Us P l S) K := _root_.id rfl
@[go_sem] theorem znA [Gi] {l : List Oper} : zeB P l K S false = Qp P l.toArray l S K := _root_.id rfl
def zkx [Gi](P:Program)(ops:Array Oper)(rest:List Oper)(K:St→Prop):St→Prop:=fun S=>uG P ops rest S K
@[go_sem] theorem zoW [Gi] {rest : List Oper} : zkx P ops rest K S = uG P ops rest S K := _root_.id rfl
def zag [Gi](P:Program)(S:St)(o:Oper)(c:Option Bool)(K:St→Prop):Prop:=∃x,(VP x=true∧WN o=true∧(c≠some false→wx P S o x))∧dOK S o.dst∧K (S.qP o.dst (gv c x))
def zbz [Gi](P:Program)(S:St)(o:Oper)(K:St→Prop)(c:Option Bool):Option PR→Prop
 |some r=>(c≠some false→r.1)∧dOK S o.dst∧K (S.qP o.dst (gv c r.2))
 |none=>zag P S o c K
def JK [Gi](P:Program)(S:St)(o:Oper)(K:St→Prop)(c:Option Bool):Option PR→Prop
 |some r=>(c≠some false→r.1)∧dOK S o.dst∧K (S.qP o.dst (gv c r.2))
 |none=>zbz P S o K c (bsD P S o)
def zdy [Gi](P:Program)(S:St)(o:Oper)(K:St→Prop)(c:Option Bool):Option (Nat×List AV)→Prop
 |some (d,cs)=>(c=none∧S.pin.contains [d]=false∧zO S.rs [d]=some cs)∧dOK S o.dst∧K (S.qP o.dst (.lp [d] 0))
 |none=>JK P S o K c (uU P S o)
def zhp [Gi](P:Program)(S:St)(o:Oper)(K:St→Prop):Option (Option Bool)→Prop
 |some c=>zdy P S o K c (jJ P o)
 |none=>False
def zhD [Gi](P:Program)(ops:Array Oper)(S:St)(o:Oper)(rest:List Oper)(K:St→Prop):Bool→Prop
 |true=>zhp P S o (zkx P ops rest K) (qZ ops S o)
 |false=>Qp P ops (o::rest) S K
@[go_sem] theorem zpX [Gi] : uG P ops [] S K = K S := _root_.id rfl
@[go_sem] theorem zoQ [Gi] {o : Oper} {rest : List Oper} : uG P ops (o :: rest) S K = zhD P ops S o rest K (hdr o rest) := by
 unfold uG zhD
 cases hdr o rest
 ·simp
 ·simp only[if_true]
  unfold zhp
  cases qZ ops S o with
  |none=>rfl
  |some c=>
   simp only[]
   unfold zdy Ur
   cases hz:jJ P o with
   |some dc=>
    obtain⟨d,cs⟩:=dc
    simp only[]
    refine propext ⟨?_,?_⟩
    ·rintro⟨x,⟨rfl,rfl,h1,h2⟩,h3,h4⟩;exact⟨⟨rfl,h1,h2⟩,h3,h4⟩
    ·rintro⟨⟨rfl,h1,h2⟩,h3,h4⟩;exact⟨_,⟨rfl,rfl,h1,h2⟩,h3,h4⟩
   |none=>
    simp only[]
    unfold JK
    cases hp:uU P S o with
    |none=>
     simp only[]
     unfold zbz
     cases hb:bsD P S o with
     |none=>simp only[];unfold zag;rfl
     |some r=>
      simp only[]
      refine propext ⟨?_,?_⟩
      ·rintro⟨x,⟨rfl,h1⟩,h2,h3⟩;exact⟨h1,h2,h3⟩
      ·rintro⟨h1,h2,h3⟩;exact⟨_,⟨rfl,h1⟩,h2,h3⟩
    |some r=>
     simp only[]
     refine propext ⟨?_,?_⟩
     ·rintro⟨x,⟨rfl,h1⟩,h2,h3⟩;exact⟨h1,h2,h3⟩
     ·rintro⟨h1,h2,h3⟩;exact⟨_,⟨rfl,h1⟩,h2,h3⟩
@[go_sem] theorem zoy [Gi] {o : Oper} {rest : List Oper} : zhD P ops S o rest K true = zhp P S o (zkx P ops rest K) (qZ ops S o) := rfl
@[go_sem] theorem znC [Gi] {o : Oper} {rest : List Oper} : zhD P ops S o rest K false = Qp P ops (o :: rest) S K := rfl
@[go_sem] theorem zos [Gi] {o : Oper} {c : Option Bool} : zhp P S o K (some c) = zdy P S o K c (jJ P o) := rfl
@[go_sem] theorem znG [Gi] {o : Oper} {c : Option Bool} : zdy P S o K c none = JK P S o K c (uU P S o) := rfl
@[go_sem] theorem zn8 [Gi] {o : Oper} {c : Option Bool} {d : Nat} {cs : List AV} : zdy P S o K c (some (d, cs)) = ((c = none ∧ S.pin.contains [d] = false ∧ zO S.rs [d] = some cs) ∧ dOK S o.dst ∧ K (S.qP o.dst (.lp [d] 0))) := rfl
@[go_sem] theorem znU [Gi] {o : Oper} {p : Prop} {x : AV} : JK P S o K none (some (p, x)) = (p ∧ dOK S o.dst ∧ K (S.qP o.dst x)) := by simp [JK, gv]
@[go_sem] theorem zoB [Gi] {o : Oper} {b : Bool} {p : Prop} {x : AV} : JK P S o K (some b) (some (p, x)) = ((b = true → p) ∧ dOK S o.dst ∧ K (S.qP o.dst (.gd b x))) := by simp [JK, gv]
@[go_sem] theorem zoo [Gi] {o : Oper} {c : Option Bool} : JK P S o K c none = zbz P S o K c (bsD P S o) := rfl
@[go_sem] theorem znO [Gi] {o : Oper} {c : Option Bool} : zbz P S o K c none = zag P S o c K := rfl
@[go_sem] theorem zoG [Gi] {o : Oper} {p : Prop} {x : AV} : zbz P S o K none (some (p, x)) = (p ∧ dOK S o.dst ∧ K (S.qP o.dst x)) := by simp [zbz, gv]
@[go_sem] theorem zc9 [Gi] {x y : Code} : wpA P D (.seq x y) Q S = wpA P D x (zgC P D y Q) S := _root_.id rfl
@[go_sem] theorem zps [Gi] {c : Operand} {x y : Code} : wpA P D (.cond c x y) Q S = Wc P D x y Q S (S.ev c) := _root_.id rfl
@[go_sem] theorem zo4 [Gi] {id : Nat} {c : Code} : wpA P D (.block id c) Q S = wpA P D c (zjk id Q) S := _root_.id rfl
@[go_sem] theorem zpJ [Gi] {id : Nat} : wpA P D (.exit id) Q S = Q (.exit id) S := _root_.id rfl
@[go_sem] theorem zqk [Gi] : wpA P D .ret Q S = Q .ret S := _root_.id rfl
@[go_sem] theorem zoz [Gi] {x y : Code} : Wc P D x y Q S (.p (.bool true)) = wpA P D x Q S := by simp [Wc]
@[go_sem] theorem znh [Gi] {x y : Code} : Wc P D x y Q S (.p (.bool false)) = wpA P D y Q S := by simp [Wc]
theorem qv [Gi] {x y:Code} {b:Bool}(h1:b=true→wpA P D x Q S)(h2:b=false→wpA P D y Q S):Wc P D x y Q S (.p (.bool b)):=⟨h1,h2⟩
theorem zA [Gi] {x y:Code} {p:Prop}[Decidable p](h1:p→wpA P D x Q S)(h2:¬p→wpA P D y Q S):Wc P D x y Q S (.p (.bool (decide p))):=⟨fun h=>h1 (of_decide_eq_true h),fun h=>h2 (of_decide_eq_false h)⟩
theorem wX [Gi] {x y:Code} {p:Prop}[Decidable p](h1:¬p→wpA P D x Q S)(h2:p→wpA P D y Q S):Wc P D x y Q S (.p (.bool (!decide p))):=⟨fun h=>h1 (by simpa using h),fun h=>h2 (by simpa using h)⟩
@[go_sem] theorem zef [Gi] {y : Code} : zgC P D y Q .normal S = wpA P D y Q S := _root_.id rfl
@[go_sem] theorem zo7 [Gi] {y : Code} {i : Nat} : zgC P D y Q (.exit i) S = Q (.exit i) S := _root_.id rfl
@[go_sem] theorem zpB [Gi] {y : Code} : zgC P D y Q .ret S = Q .ret S := _root_.id rfl
@[go_sem] theorem znm {id : Nat} : zjk id Q .normal S = Q .normal S := rfl
@[go_sem] theorem zpc {id i : Nat} : zjk id Q (.exit i) S = if i = id then Q .normal S else Q (.exit i) S := rfl
@[go_sem] theorem zpq {id : Nat} : zjk id Q .ret S = Q .ret S := rfl
end
def Jz {ι:Type}(inv:ι→Prop)(st:ι→St)(m:ι→Nat)(i:ι)(Q:Exit→St→Prop):Exit→St→Prop:=fun e S=>match e with|.normal=>∃j:{i:ι//inv i},LeR S (st j.1)∧m j.1<m i|e=>Q e S
@[go_sem] theorem zox {ι : Type} {inv : ι → Prop} {st : ι → St} {m : ι → Nat} {i : ι} {Q : Exit → St → Prop} {S : St} {k : Nat} : Jz inv st m i Q (.exit k) S = Q (.exit k) S := rfl
@[go_sem] theorem zo3 {ι : Type} {inv : ι → Prop} {st : ι → St} {m : ι → Nat} {i : ι} {Q : Exit → St → Prop} {S : St} : Jz inv st m i Q .ret S = Q .ret S := rfl
theorem zf {ι:Type} {inv:ι→Prop} {st:ι→St} {m:ι→Nat} {i:ι} {Q:Exit→St→Prop} {S:St}(j:ι)(h1:inv j)(h2:LeS S (st j))(h3:m j<m i):Jz inv st m i Q .normal S:=⟨⟨j,h1⟩,.inl h2,h3⟩
theorem x7 {ι:Type} {inv:ι→Prop} {st:ι→St} {m:ι→Nat} {i:ι} {Q:Exit→St→Prop} {S:St}(j:ι)(mm:List (Tok×Tok))(h1:inv j)(h2:(okM 1000000 mm=true∧S.pin.all (fun t=>inM mm t==some t)=true)∧LeS (zdU S mm) (st j))(h3:m j<m i):Jz inv st m i Q .normal S:=⟨⟨j,h1⟩,.inr ⟨mm,h2.1.1,h2.1.2,h2.2⟩,h3⟩
theorem wR [Gi] {P:Program} {D:List Nat} {c:Code} {Q:Exit→St→Prop} {S:St} {ι:Type}(inv:ι→Prop)(st:ι→St)(m:ι→Nat)(i:ι)(hi:inv i)(h0:LeS S (st i))(h:∀i,inv i→wpA P D c (Jz inv st m i Q) (st i)):wpA P D (.loop c) Q S:=
 ⟨{i:ι//inv i},fun i=>st i.1,fun i=>m i.1,⟨⟨i,hi⟩,h0⟩,fun i=>h i.1 i.2⟩
theorem zr {α:Type}(f:α→PV)(l:List α)(n:Nat)(h:n<l.length):elemAt (l.map f) n=f l[n]:=by simp[elemAt,h]
theorem zkh(x:AV):leA x x:=.inl rfl
theorem zh {P:Program} {ts:List (Nat×Option TypeId)} {R:AV→List (Tok×List AV)→Prop} {S:St}(x:AV)(hp:S.pin=[])(hx:(zd P S ts).1∧leT ((zd P S ts).2.upd (AM.fil (fun _=>false) ftt)) x)(hR:R x []):WV P [] ts R S:=by
 have e:(fun t:Tok=>([]:List Tok).contains t)=fun _=>false:=by funext t;simp
 refine⟨[],x,⟨hp,by rw[hp];rfl⟩,by rw[e];exact hx,?_⟩
 have:∀l:List (Tok×List AV),Ux [] l=[]:=fun l=>by simp[Ux]
 rw[this];exact hR
@[go_sem] theorem zoP {P : Program} {pin : List Tok} {ts : List (Nat × Option TypeId)} {R : AV → List (Tok × List AV) → Prop} {S : St} : uj P pin ts R .ret S = WV P pin ts R S := _root_.id rfl
@[go_sem] theorem zmi {P : Program} {pin : List Tok} {ts : List (Nat × Option TypeId)} {R : AV → List (Tok × List AV) → Prop} {S : St} : uj P pin ts R .normal S = WV P pin ts R S := _root_.id rfl
theorem wrap64 [Gi] {x:Int}(h1: -9223372036854775808≤x)(h2:x≤9223372036854775807):IntKind.i64.wrap x=x:=by
 simp only[IntKind.wrap,IntKind.signed,IntKind.bits]
 simp
 omega
attribute [go_sem] qZ zcx Option.map_some Option.map_none zdH K7 okC eqC zky zlc zkY zid zfp zc3 zhZ zk0 zab VZ zdV zkq UM xS Wv Kj KA Kb St.itz itz xO Uk Qz Vj sbD XQ St.fz fz fz1 ZI zdE un1 un2 unG St.ev St.get St.set St.kept look Qt zO kL qC St.qP dOK y4 zpz Qu vg
attribute [go_sem] zji zew zeJ zel uM Kr zcJ ptrEq wO U7 J8 zc5 qB Wh uT zb8 Vu bad
attribute [go_sem] zl0 zjO KM Wr zdF KQ unA zdY Ua Jf kV zdQ kh j6 yW zcn UL W9 XV Xy uZ zcc sliceB X6 zkJ zgA Ug vt vt.sl Option.bind_some Option.bind_none
attribute [go_sem] KB Z2 VG zmk Q4 wG toP zlF zeu PV.cells PV.one PV.fits KR Qy zku WH Uh Xq xA Ja jw qm zf0 UA zmm zkW yB sizedB zfT
attribute [go_sem] bzC um zdU zkF Wm Uv zou ziX YX jG xj xY jh u9 Q3 JV Qf zgR AV.ren Xb xu inM yN okM Qo jU jO YP JQ uF zhe uQ Kg yg wv
attribute [go_sem] St.fil AV.upd fil zH ZH ftt
theorem zb [Gi] {P:Program} {S:St} {f:FuncId} {args:List Operand} {dst:Option Nat} {K:St→Prop}(m:List (Tok×Tok)) {pin:List Tok} {as1:List AV} {rs:List (Tok×List AV)} {R:AV→List (Tok×List AV)→Prop}(hC:CR P f pin as1 rs R)
  (hm:okM (dst.getD S.n) m=true∧S.pin.all (jU (dst.getD S.n) m pin)=true∧dOK S dst) (ha:(Qf S m args).1∧(Qf S m args).2=as1) (hr:Qo S m m=rs)
  (hk:∀x rs',R x rs'→K ((uF S (dst.getD S.n) m pin rs').qP dst (x.ren fun u=>some (yN (dst.getD S.n) m u)))):XX P S f args dst K:=by
 subst hr
 obtain⟨ha,rfl⟩:=ha
 exact⟨m,pin,R,hm,ha,hC,hk⟩
theorem V9 [Gi] {P:Program} {S:St} {f:FuncId} {cs:List AV} {args:List Operand} {dst:Option Nat} {K:St→Prop}(m:List (Tok×Tok)) {pin:List Tok} {as1:List AV} {rs:List (Tok×List AV)} {R:AV→List (Tok×List AV)→Prop}(hC:CR P f pin as1 rs R)
  (hm:okM (dst.getD S.n) m=true∧S.pin.all (jU (dst.getD S.n) m pin)=true∧dOK S dst) (ha:(Qf S m args).1∧(Qf S m args).2++cs.map (zgR m)=as1) (hr:Qo S m m=rs)
  (hk:∀x rs',R x rs'→K ((uF S (dst.getD S.n) m pin rs').qP dst (x.ren fun u=>some (yN (dst.getD S.n) m u)))):zeG P S f cs args dst K:=by
 subst hr
 obtain⟨ha,rfl⟩:=ha
 exact⟨m,pin,R,hm,ha,hC,hk⟩
theorem zi {P:Program} {pin:List Tok} {ts:List (Nat×Option TypeId)} {R:AV→List (Tok×List AV)→Prop} {S:St}(kr:List Tok)(x:AV)(hp:S.pin=pin∧pin.all (fun t=>kr.contains t)=true)(hx:(zd P S ts).1∧leT ((zd P S ts).2.upd (AM.fil (fun t=>kr.contains t) ftt)) x)(hR:R x (Ux kr (S.fil (fun t=>kr.contains t) ftt).rs)):WV P pin ts R S:=by
 obtain⟨rfl,hp⟩:=hp
 exact⟨kr,x,⟨rfl,hp⟩,hx,hR⟩
attribute [go_sem] Ux List.getElem?_cons_zero
def St.ofR(rs:List (Tok×List AV)):St:={n:=0,nv:=0,vs:=[],ts:=[],rs:=rs}
theorem GS.Qj [Gi] {g:Gh} {w:World} {rs:List (Tok×List AV)}(h:GS g w rs) {d:Nat} {m:List (Tok×Tok)}(ok:okM d m=true):GS (g.Qj m) w (Qo (St.ofR rs) m m):=by
 refine⟨fun b u hk=>?_,fun b b' u hk hk'=>?_,fun b b' u hk hk'=>?_,fun b hb=>h.own b (fun e=>hb ?_),h.frb,fun b arr e=>⟨by show(g.K b).ren _=.prot;rw[(h.gl b arr e).1];rfl,(h.gl b arr e).2⟩⟩
 ·obtain⟨t,hk,hu⟩:=Kd.QF.1 hk
  obtain⟨cs,hl,h0,arr,T,hb,hle,hc⟩:=h.roots b t hk
  refine⟨_,uI (S:=St.ofR rs) (Q0 ok hu) hl,h0,arr,T,hb,by simpa using hle,fun j x hj=>?_⟩
  simp only[List.getElem?_map,Option.map_eq_some_iff]at hj
  obtain⟨y,hy,rfl⟩:=hj
  obtain⟨v,hv,h1,r⟩:=hc j y hy
  exact⟨v,hv,h1,zc.ren (Ren.Qj g m) _ _ r⟩
 ·obtain⟨t,hk,hu⟩:=Kd.QF.1 hk
  obtain⟨t',hk',hu'⟩:=Kd.QF.1 hk'
  have e:=Q0 ok hu
  rw[Q0 ok hu']at e;injection e with e;subst e
  exact h.ur b b' _ hk hk'
 ·obtain⟨t,hk,hu⟩:=Kd.wZ.1 hk
  obtain⟨t',hk',hu'⟩:=Kd.wZ.1 hk'
  have e:=Q0 ok hu
  rw[Q0 ok hu']at e;injection e with e;subst e
  exact h.ut b b' _ hk hk'
 ·show(g.K b).ren _=.prot
  rw[e];rfl
theorem CR.ren [Gi] {P:Program} {f:FuncId} {pin:List Tok} {args:List AV} {rs:List (Tok×List AV)} {R R':AV→List (Tok×List AV)→Prop}(h:CR P f pin args rs R)(d:Nat)
  (hr:∀x rs',R x rs'→∃m,okM d m=true∧pin.all (fun t=>inM m t==some t)=true∧R' (x.ren (inM m)) (Qo (St.ofR rs') m m)):CR P f pin args rs R':=by
 intro w g vs h1 h2
 refine(h w g vs h1 h2).mono ?_
 rintro e w' ⟨v,x,rs',g',rfl,hR,hx,hG,hA⟩
 obtain⟨m,ok,hp,hR'⟩:=hr x rs' hR
 refine⟨v,_,_,g'.Qj m,rfl,hR',zc.ren (Ren.Qj g' m) _ _ hx,hG.Qj ok,⟨fun b hb hk=>?_,hA.ext,hA.out,hA.mono,fun b t hk ht=>?_⟩⟩
 ·obtain⟨a1,a2,a3⟩:=hA.frame b hb hk
  exact⟨a1,a2,by show(g'.K b).ren _=.prot;rw[a3];rfl⟩
 ·have:=List.all_eq_true.1 hp t ht
  simp at this
  exact⟨Kd.QF.2 ⟨t,(hA.pins b t hk ht).1,this⟩,(hA.pins b t hk ht).2⟩
attribute [go_sem] St.ofR leT leP
theorem zM [Gi] {P:Program} {S:St} {dst:Option Nat} {x:Operand} {args:Array Operand} {argTypes:Array TypeId} {tt:TypeId} {pos:String} {after:Array Edge} {guard:Option (Nat×Bool)} {r:AV}(f:FuncId) {as1:List AV}
  (hC:CR P f [] as1 [] fun y rs=>rs=[]∧y=r) (hf:zfT (S.ev x)=some f) (hb:((P.funcs[f]?).map (·.body.isSome))=some true∧((P.funcs[f]?).map (·.name))≠some "runtime.NumGoroutine")
  (ha:(Qf S [] args.toList).1∧(Qf S [] args.toList).2=as1):wx P S ⟨dst,.call ⟨.value x,args,argTypes⟩,tt,pos,after,guard⟩ r:=by
 unfold wx
 simp only[hf]
 obtain⟨h1,rfl⟩:=ha
 exact⟨hb,h1,hC⟩
theorem zN [Gi] {P:Program} {S:St} {o:Oper} {c:Option Bool} {K:St→Prop}(x:AV)(hx:VP x=true)(hv:WN o=true)(hp:c≠some false→wx P S o x)(hk:dOK S o.dst∧K (S.qP o.dst (gv c x))):zag P S o c K:=
 ⟨x,⟨hx,hv,hp⟩,hk⟩
attribute [go_sem] gv uU bsD bsR zg0 zp2 zhS zk7 hdr List.isEmpty_cons List.isEmpty_nil WN Qv xD jJ zeb Us
def qO {α:Type}(n:Nat)(c:List α):List α:=(List.replicate n c).flatten
theorem qI {α:Type}(n:Nat)(c:List α):(qO n c).length=n*c.length:=by simp[qO]
end Go.AM
end
section
namespace Go.Proofs.YtjefahhmkcfiiaaGreat
open Go.AM
theorem mixed:Tryz.prog.follows .mixedOrders=true:=Tryz.checked.mixed
@[go_sem] theorem ty3 : ty Tryz.prog 3 = some ⟨.int .i64, 1, 8, some [.int .i64 0]⟩ := by kernel_rfl
@[go_sem] theorem ty4 : ty Tryz.prog 4 = some ⟨.bool, 1, 1, some [.bool false]⟩ := by kernel_rfl
@[go_sem] theorem ty5 : ty Tryz.prog 5 = some ⟨.int .u8, 1, 1, some [.int .u8 0]⟩ := by kernel_rfl
@[go_sem] theorem ty9 : ty Tryz.prog 9 = some ⟨.string, 1, 16, some [.str []]⟩ := by kernel_rfl
@[go_sem] theorem ty21 : ty Tryz.prog 21 = some ⟨.int .i32, 1, 4, some [.int .i32 0]⟩ := by kernel_rfl
@[go_sem] theorem ty22 : ty Tryz.prog 22 = some ⟨.slice 21, 1, 24, some [.opq (.slice none 0 0)]⟩ := by kernel_rfl
@[go_sem] theorem ty23 : ty Tryz.prog 23 = some ⟨.slice 37, 1, 24, some [.opq (.slice none 0 0)]⟩ := by kernel_rfl
@[go_sem] theorem ty25 : ty Tryz.prog 25 = some ⟨.slice 157, 1, 24, some [.opq (.slice none 0 0)]⟩ := by kernel_rfl
@[go_sem] theorem ty27 : ty Tryz.prog 27 = some ⟨.pointer 107, 1, 8, some [.opq (.pointer none)]⟩ := by kernel_rfl
@[go_sem] theorem ty29 : ty Tryz.prog 29 = some ⟨.slice 22, 1, 24, some [.opq (.slice none 0 0)]⟩ := by kernel_rfl
@[go_sem] theorem ty31 : ty Tryz.prog 31 = some ⟨Tryz.t30.desc, 2, 32, some [.opq (.slice none 0 0), .int .i64 0]⟩ := by kernel_rfl
@[go_sem] theorem ty34 : ty Tryz.prog 34 = some ⟨Tryz.t33.desc, 2, 32, some [.opq (.slice none 0 0), .int .i64 0]⟩ := by kernel_rfl
@[go_sem] theorem ty37 : ty Tryz.prog 37 = some ⟨Tryz.t36.desc, 3, 40, some [.int .i64 0, .int .i64 0, .opq (.slice none 0 0)]⟩ := by kernel_rfl
@[go_sem] theorem ty55 : ty Tryz.prog 55 = some ⟨.pointer 135, 1, 8, some [.opq (.pointer none)]⟩ := by kernel_rfl
@[go_sem] theorem ty78 : ty Tryz.prog 78 = some ⟨Tryz.t77.desc, 3, 56, some [.int .i64 0, .opq (.slice none 0 0), .opq (.slice none 0 0)]⟩ := by kernel_rfl
@[go_sem] theorem ty80 : ty Tryz.prog 80 = some ⟨Tryz.t79.desc, 4, 64, some [.int .i64 0, .opq (.slice none 0 0), .opq (.slice none 0 0), .int .i64 0]⟩ := by kernel_rfl
@[go_sem] theorem ty85 : ty Tryz.prog 85 = some ⟨.slice 87, 1, 24, some [.opq (.slice none 0 0)]⟩ := by kernel_rfl
@[go_sem] theorem ty87 : ty Tryz.prog 87 = some ⟨Tryz.t36.desc, 3, 40, some [.int .i64 0, .int .i64 0, .opq (.slice none 0 0)]⟩ := by kernel_rfl
@[go_sem] theorem ty88 : ty Tryz.prog 88 = some ⟨Tryz.t77.desc, 3, 56, some [.int .i64 0, .opq (.slice none 0 0), .opq (.slice none 0 0)]⟩ := by kernel_rfl
@[go_sem] theorem ty97 : ty Tryz.prog 97 = some ⟨.slice 3, 1, 24, some [.opq (.slice none 0 0)]⟩ := by kernel_rfl
@[go_sem] theorem ty99 : ty Tryz.prog 99 = some ⟨.pointer 218, 1, 8, some [.opq (.pointer none)]⟩ := by kernel_rfl
@[go_sem] theorem ty101 : ty Tryz.prog 101 = some ⟨.pointer 232, 1, 8, some [.opq (.pointer none)]⟩ := by kernel_rfl
@[go_sem] theorem ty103 : ty Tryz.prog 103 = some ⟨.map 114 21, 1, 8, some [.opq (.map none)]⟩ := by kernel_rfl
@[go_sem] theorem ty104 : ty Tryz.prog 104 = some ⟨.map 21 4, 1, 8, some [.opq (.map none)]⟩ := by kernel_rfl
@[go_sem] theorem ty105 : ty Tryz.prog 105 = some ⟨.pointer 182, 1, 8, some [.opq (.pointer none)]⟩ := by kernel_rfl
@[go_sem] theorem ty107 : ty Tryz.prog 107 = some ⟨Tryz.t106.desc, 7, 56, some [.opq (.pointer none), .opq (.pointer none), .opq (.pointer none), .opq (.pointer none), .opq (.pointer none), .opq (.map none), .opq (.map none)]⟩ := by kernel_rfl
@[go_sem] theorem ty108 : ty Tryz.prog 108 = some ⟨.slice 116, 1, 24, some [.opq (.slice none 0 0)]⟩ := by kernel_rfl
@[go_sem] theorem ty109 : ty Tryz.prog 109 = some ⟨.slice 112, 1, 24, some [.opq (.slice none 0 0)]⟩ := by kernel_rfl
@[go_sem] theorem ty112 : ty Tryz.prog 112 = some ⟨Tryz.t111.desc, 4, 32, some [.int .i64 0, .int .i64 0, .int .i64 0, .int .i64 0]⟩ := by kernel_rfl
@[go_sem] theorem ty114 : ty Tryz.prog 114 = some ⟨Tryz.t113.desc, 2, 8, some [.int .i32 0, .int .i32 0]⟩ := by kernel_rfl
@[go_sem] theorem ty116 : ty Tryz.prog 116 = some ⟨Tryz.t115.desc, 4, 24, some [.int .i64 0, .int .i64 0, .int .i32 0, .int .i32 0]⟩ := by kernel_rfl
@[go_sem] theorem ty129 : ty Tryz.prog 129 = some ⟨.pointer 205, 1, 8, some [.opq (.pointer none)]⟩ := by kernel_rfl
@[go_sem] theorem ty132 : ty Tryz.prog 132 = some ⟨Tryz.t131.desc, 2, 32, some [.opq (.slice none 0 0), .int .i64 0]⟩ := by kernel_rfl
@[go_sem] theorem ty135 : ty Tryz.prog 135 = some ⟨Tryz.t134.desc, 4, 48, some [.opq (.pointer none), .opq (.pointer none), .opq (.slice none 0 0), .int .i64 0]⟩ := by kernel_rfl
@[go_sem] theorem ty141 : ty Tryz.prog 141 = some ⟨Tryz.t140.desc, 3, 24, some [.int .i64 0, .int .i64 0, .int .i64 0]⟩ := by kernel_rfl
@[go_sem] theorem ty157 : ty Tryz.prog 157 = some ⟨Tryz.t156.desc, 5, 40, some [.int .i64 0, .int .i64 0, .int .i64 0, .int .i64 0, .int .i64 0]⟩ := by kernel_rfl
@[go_sem] theorem ty158 : ty Tryz.prog 158 = some ⟨.slice 160, 1, 24, some [.opq (.slice none 0 0)]⟩ := by kernel_rfl
@[go_sem] theorem ty160 : ty Tryz.prog 160 = some ⟨Tryz.t159.desc, 3, 24, some [.int .i64 0, .int .i64 0, .int .i64 0]⟩ := by kernel_rfl
@[go_sem] theorem ty162 : ty Tryz.prog 162 = some ⟨.array 4 3, 4, 32, some [.int .i64 0, .int .i64 0, .int .i64 0, .int .i64 0]⟩ := by kernel_rfl
@[go_sem] theorem ty163 : ty Tryz.prog 163 = some ⟨.array 4 109, 4, 96, some [.opq (.slice none 0 0), .opq (.slice none 0 0), .opq (.slice none 0 0), .opq (.slice none 0 0)]⟩ := by kernel_rfl
@[go_sem] theorem ty164 : ty Tryz.prog 164 = some ⟨.slice 174, 1, 24, some [.opq (.slice none 0 0)]⟩ := by kernel_rfl
@[go_sem] theorem ty166 : ty Tryz.prog 166 = some ⟨.slice 109, 1, 24, some [.opq (.slice none 0 0)]⟩ := by kernel_rfl
@[go_sem] theorem ty167 : ty Tryz.prog 167 = some ⟨.array 4 4, 4, 4, some [.bool false, .bool false, .bool false, .bool false]⟩ := by kernel_rfl
@[go_sem] theorem ty172 : ty Tryz.prog 172 = some ⟨Tryz.t171.desc, 4, 4, some [.bool false, .bool false, .bool false, .bool false]⟩ := by kernel_rfl
@[go_sem] theorem ty174 : ty Tryz.prog 174 = some ⟨Tryz.t173.desc, 6, 24, some [.int .i64 0, .int .i64 0, .bool false, .bool false, .bool false, .bool false]⟩ := by kernel_rfl
@[go_sem] theorem ty180 : ty Tryz.prog 180 = some ⟨.slice 191, 1, 24, some [.opq (.slice none 0 0)]⟩ := by kernel_rfl
@[go_sem] theorem ty182 : ty Tryz.prog 182 = some ⟨Tryz.t181.desc, 3, 56, some [.int .i64 0, .opq (.slice none 0 0), .opq (.slice none 0 0)]⟩ := by kernel_rfl
@[go_sem] theorem ty184 : ty Tryz.prog 184 = some ⟨.map 191 3, 1, 8, some [.opq (.map none)]⟩ := by kernel_rfl
@[go_sem] theorem ty185 : ty Tryz.prog 185 = some ⟨.map 114 3, 1, 8, some [.opq (.map none)]⟩ := by kernel_rfl
@[go_sem] theorem ty187 : ty Tryz.prog 187 = some ⟨Tryz.t186.desc, 3, 24, some [.opq (.pointer none), .opq (.map none), .opq (.map none)]⟩ := by kernel_rfl
@[go_sem] theorem ty191 : ty Tryz.prog 191 = some ⟨.array 128 114, 256, 1024, some (qO 128 [.int .i32 0, .int .i32 0])⟩ := by kernel_rfl
@[go_sem] theorem ty205 : ty Tryz.prog 205 = some ⟨Tryz.t204.desc, 3, 40, some [.opq (.slice none 0 0), .int .i64 0, .int .i64 0]⟩ := by kernel_rfl
@[go_sem] theorem ty216 : ty Tryz.prog 216 = some ⟨.slice 225, 1, 24, some [.opq (.slice none 0 0)]⟩ := by kernel_rfl
@[go_sem] theorem ty218 : ty Tryz.prog 218 = some ⟨Tryz.t217.desc, 3, 56, some [.int .i64 0, .opq (.slice none 0 0), .opq (.slice none 0 0)]⟩ := by kernel_rfl
@[go_sem] theorem ty220 : ty Tryz.prog 220 = some ⟨.map 225 3, 1, 8, some [.opq (.map none)]⟩ := by kernel_rfl
@[go_sem] theorem ty221 : ty Tryz.prog 221 = some ⟨.map 3 3, 1, 8, some [.opq (.map none)]⟩ := by kernel_rfl
@[go_sem] theorem ty223 : ty Tryz.prog 223 = some ⟨Tryz.t222.desc, 3, 24, some [.opq (.pointer none), .opq (.map none), .opq (.map none)]⟩ := by kernel_rfl
@[go_sem] theorem ty225 : ty Tryz.prog 225 = some ⟨.array 128 3, 128, 1024, some (qO 128 [.int .i64 0])⟩ := by kernel_rfl
@[go_sem] theorem ty227 : ty Tryz.prog 227 = some ⟨.map 3 4, 1, 8, some [.opq (.map none)]⟩ := by kernel_rfl
@[go_sem] theorem ty230 : ty Tryz.prog 230 = some ⟨.slice 241, 1, 24, some [.opq (.slice none 0 0)]⟩ := by kernel_rfl
@[go_sem] theorem ty232 : ty Tryz.prog 232 = some ⟨Tryz.t231.desc, 3, 56, some [.int .i64 0, .opq (.slice none 0 0), .opq (.slice none 0 0)]⟩ := by kernel_rfl
@[go_sem] theorem ty234 : ty Tryz.prog 234 = some ⟨.map 241 3, 1, 8, some [.opq (.map none)]⟩ := by kernel_rfl
@[go_sem] theorem ty235 : ty Tryz.prog 235 = some ⟨.map 172 3, 1, 8, some [.opq (.map none)]⟩ := by kernel_rfl
@[go_sem] theorem ty237 : ty Tryz.prog 237 = some ⟨Tryz.t236.desc, 3, 24, some [.opq (.pointer none), .opq (.map none), .opq (.map none)]⟩ := by kernel_rfl
@[go_sem] theorem ty241 : ty Tryz.prog 241 = some ⟨.array 128 172, 512, 512, some (qO 128 [.bool false, .bool false, .bool false, .bool false])⟩ := by kernel_rfl
@[go_sem] theorem ty245 : ty Tryz.prog 245 = some ⟨.int .u64, 1, 8, some [.int .u64 0]⟩ := by kernel_rfl
@[go_sem] theorem ty247 : ty Tryz.prog 247 = some ⟨Tryz.t246.desc, 5, 40, some [.bool false, .int .i64 0, .int .i64 0, .int .i64 0, .bool false]⟩ := by kernel_rfl
@[go_sem] theorem ty252 : ty Tryz.prog 252 = some ⟨Tryz.t251.desc, 2, 32, some [.opq (.pointer none), .opq (.slice none 0 0)]⟩ := by kernel_rfl
@[go_sem] theorem ty273 : ty Tryz.prog 273 = some ⟨.int .u64, 1, 8, some [.int .u64 0]⟩ := by kernel_rfl
@[go_sem] theorem ty282 : ty Tryz.prog 282 = some ⟨.array 2 21, 2, 8, some [.int .i32 0, .int .i32 0]⟩ := by kernel_rfl
@[go_sem] theorem ty290 : ty Tryz.prog 290 = some ⟨.array 3 21, 3, 12, some [.int .i32 0, .int .i32 0, .int .i32 0]⟩ := by kernel_rfl
@[go_sem] theorem zqO : XC Tryz.prog 21 = some (.int .i32 0) := by kernel_rfl
@[go_sem] theorem zp4 : XC Tryz.prog 4 = some (.bool false) := by kernel_rfl
@[go_sem] theorem zp3 : XC Tryz.prog 3 = some (.int .i64 0) := by kernel_rfl
@[go_sem] theorem ck114 : yp Tryz.prog 114 = some [.i .i32, .i .i32] := by kernel_rfl
@[go_sem] theorem ck167 : yp Tryz.prog 167 = some [.b, .b, .b, .b] := by kernel_rfl
@[go_sem] theorem kk3 : Z7 Tryz.prog 3 = some (false, [.i .i64]) := by kernel_rfl
@[go_sem] theorem zqN : Z7 Tryz.prog 21 = some (false, [.i .i32]) := by kernel_rfl
@[go_sem] theorem zqI : Z7 Tryz.prog 114 = some (true, [.i .i32, .i .i32]) := by kernel_rfl
@[go_sem] theorem zqK : Z7 Tryz.prog 172 = some (true, [.b, .b, .b, .b]) := by kernel_rfl
@[go_sem] theorem zqM : Z7 Tryz.prog 191 = some (true, qO 128 [.i .i32, .i .i32]) := Vp ty191 (by kernel_rfl) (by kernel_rfl) ty114 (by decide)
@[go_sem] theorem zqL : Z7 Tryz.prog 225 = some (true, qO 128 [.i .i64]) := Vp ty225 (by kernel_rfl) (by kernel_rfl) ty3 (by decide)
@[go_sem] theorem zqJ : Z7 Tryz.prog 241 = some (true, qO 128 [.b, .b, .b, .b]) := Vp ty241 (by kernel_rfl) (by kernel_rfl) ty172 (by decide)
attribute [go_sem] Tryz.t7 Tryz.t13 Tryz.t18 Tryz.t30 Tryz.t33 Tryz.t36 Tryz.t63 Tryz.t77 Tryz.t79 Tryz.t106 Tryz.t111 Tryz.t113 Tryz.t115 Tryz.t131 Tryz.t134 Tryz.t140 Tryz.t156 Tryz.t159 Tryz.t171 Tryz.t173 Tryz.t181 Tryz.t186 Tryz.t204 Tryz.t217 Tryz.t222 Tryz.t231 Tryz.t236 Tryz.t246 Tryz.t251 Tryz.t298 Tryz.t301 Tryz.t309
end Go.Proofs.YtjefahhmkcfiiaaGreat
end
section
namespace Go.AM
theorem XX.mono [Gi] {P:Program} {S:St} {f:FuncId} {args:List Operand} {dst:Option Nat} {K K':St→Prop}(hk:∀S,K S→K' S)(h:XX P S f args dst K):XX P S f args dst K':=by
 obtain⟨m,pin,R,h1,h2,h3,h4⟩:=h
 exact⟨m,pin,R,h1,h2,h3,fun x rs' hr=>hk _ (h4 x rs' hr)⟩
theorem zeG.mono [Gi] {P:Program} {S:St} {f:FuncId} {cs:List AV} {args:List Operand} {dst:Option Nat} {K K':St→Prop}(hk:∀S,K S→K' S)(h:zeG P S f cs args dst K):zeG P S f cs args dst K':=by
 obtain⟨m,pin,R,h1,h2,h3,h4⟩:=h
 exact⟨m,pin,R,h1,h2,h3,fun x rs' hr=>hk _ (h4 x rs' hr)⟩
theorem zfS [Gi] {P:Program} {S:St} {o:Oper} {K K':St→Prop}(hk:∀S,K S→K' S)(h:JV P S o K):JV P S o K':=by
 unfold JV at h⊢
 split at h
 ·split at h
  ·split at h
   ·exact⟨h.1,h.2.mono hk⟩
   ·split at h
    ·exact⟨h.1,h.2.mono hk⟩
    ·exact h.elim
  ·exact h.elim
 ·split at h
  ·exact⟨h.1,fun e=>hk _ (h.2.1 e),fun i hi=>hk _ (h.2.2 i hi)⟩
  ·exact h.elim
 ·exact h.elim
theorem zbF [Gi] {P:Program} {S:St} {o:Oper} {K K':St→Prop}(hk:∀S,K S→K' S)(h:J2 P S o K):J2 P S o K':=by
 unfold J2 at h⊢
 split at h
 ·exact⟨h.1,hk _ h.2⟩
 ·exact zfS hk h
theorem Yq [Gi] {P:Program} {S:St} {o:Oper} {c:Option Bool} {K K':St→Prop}(hk:∀S,K S→K' S)(h:wc P S o c K):wc P S o c K':=by
 unfold wc at h⊢
 split at h
 ·split at h
  ·exact⟨h.1,hk _ h.2⟩
  ·exact⟨h.1,hk _ h.2⟩
 ·split at h
  ·exact zbF hk h
  ·exact⟨fun e=>zbF hk (h.1 e),fun e=>⟨(h.2 e).1,hk _ (h.2 e).2⟩⟩
theorem WL [Gi] {P:Program} {ops:Array Oper}:∀{l:List Oper} {S:St} {K K':St→Prop},(∀S,K S→K' S)→Qp P ops l S K→Qp P ops l S K'
 | [],S,K,K',hk,h=>hk _ h
 |o::l,S,K,K',hk,h=>by
  unfold Qp at h⊢
  split at h
  ·exact Yq (fun S' h'=>WL hk h') h
  ·exact h.elim
theorem zaW [Gi] {P:Program} {ops:Array Oper}:∀{l:List Oper} {S:St} {K K':St→Prop},(∀S,K S→K' S)→uG P ops l S K→uG P ops l S K'
 | [],S,K,K',hk,h=>hk _ h
 |o::l,S,K,K',hk,h=>by
  unfold uG at h⊢
  split
  ·rename_i hh
   rw[if_pos hh]at h
   split at h
   ·obtain⟨x,h1,h2,h3⟩:=h
    exact⟨x,h1,h2,zaW hk h3⟩
   ·exact h.elim
  ·rename_i hh
   rw[if_neg hh]at h
   exact WL hk h
mutual
theorem zaO [Gi] {P:Program} {ops:Array Oper} {K K':St→Prop}(hk:∀S,K S→K' S):∀(t:OT) {S:St},kT P ops K t S→kT P ops K' t S
 |.mk [],S,h=>by simp only[kT]at h⊢;exact hk _ h
 |.mk (x::l),S,h=>by simp only[kT]at h⊢;exact zae hk (x::l) h
 |.now i c t,S,h=>by
  simp only[kT]at h⊢
  unfold zlW at h⊢
  split
  ·rename_i o ho
   simp only[ho]at h
   unfold zjY at h⊢
   split
   ·rename_i r hr
    simp only[hr]at h
    exact⟨h.1,h.2.1,zaO hk t h.2.2⟩
   ·rename_i hr
    simp only[hr]at h
  ·rename_i ho
   simp only[ho]at h
theorem zae [Gi] {P:Program} {ops:Array Oper} {K K':St→Prop}(hk:∀S,K S→K' S):∀(l:List (Nat×OT)) {S:St},xy P ops K l S→xy P ops K' l S
 | [],S,_=>by simp only[xy]
 |(i,t)::l,S,h=>by
  simp only[xy]at h⊢
  refine⟨?_,zae hk l h.2⟩
  have h1:=h.1
  cases ho:ops[i]? with
  |none=>rw[ho]at h1;exact h1.elim
  |some o=>
   rw[ho]at h1
   simp only at h1⊢
   cases hg:qZ ops S o with
   |none=>rw[hg]at h1;exact h1.2.elim
   |some c=>rw[hg]at h1;exact⟨h1.1,Yq (fun S' h'=>zaO hk t h') h1.2⟩
end
theorem jM [Gi] {P:Program} {D:List Nat}:∀(c:Code) {Q Q':Exit→St→Prop} {S:St},(∀e S,Q e S→Q' e S)→wpA P D c Q S→wpA P D c Q' S
 |.skip,Q,Q',S,hq,h=>by simp only[wpA]at h⊢;exact hq _ _ h
 |.region id ops draw,Q,Q',S,hq,h=>by
  simp only[wpA]at h⊢
  split
  ·rename_i hc;rw[if_pos hc]at h;exact zgi (fun S h=>hq _ _ h) h
  rename_i hl0
  rw[if_neg hl0]at h
  split
  ·rename_i hc;rw[if_pos hc]at h;exact zg8 (fun S h=>hq _ _ h) h
  ·rename_i hl
   rw[if_neg hl]at h
   split
   ·rename_i hc;rw[if_pos hc]at h;exact zaW (fun S h=>hq _ _ h) h
   ·rename_i hc;rw[if_neg hc]at h;exact WL (fun S h=>hq _ _ h) h
 |.seq x y,Q,Q',S,hq,h=>by
  simp only[wpA]at h⊢
  refine jM x (fun e S' h'=>?_) h
  cases e with
  |normal=>exact jM y hq h'
  |_=>exact hq _ _ h'
 |.cond c x y,Q,Q',S,hq,h=>by
  simp only[wpA]at h⊢
  split at h
  ·exact⟨fun e=>jM x hq (h.1 e),fun e=>jM y hq (h.2 e)⟩
  ·exact h.elim
 |.block id c,Q,Q',S,hq,h=>by
  simp only[wpA]at h⊢
  refine jM c (fun e S' h'=>?_) h
  cases e with
  |exit i=>
   simp only[]at h'⊢
   split
   ·rename_i hi;rw[if_pos hi]at h';exact hq _ _ h'
   ·rename_i hi;rw[if_neg hi]at h';exact hq _ _ h'
  |_=>exact hq _ _ h'
 |.loop c,Q,Q',S,hq,h=>by
  simp only[wpA]at h⊢
  obtain⟨ι,st,m,h0,hr⟩:=h
  refine⟨ι,st,m,h0,fun i=>jM c (fun e S' h'=>?_) (hr i)⟩
  cases e with
  |normal=>exact h'
  |_=>exact hq _ _ h'
 |.exit id,Q,Q',S,hq,h=>by simp only[wpA]at h⊢;exact hq _ _ h
 |.ret,Q,Q',S,hq,h=>by simp only[wpA]at h⊢;exact hq _ _ h
 |.rangeFunc ..,Q,Q',S,hq,h=>by simp only[wpA]at h
 |.scope _,Q,Q',S,hq,h=>by simp only[wpA]at h
 |.label _,Q,Q',S,hq,h=>by simp only[wpA]at h
 |.goto _,Q,Q',S,hq,h=>by simp only[wpA]at h
 |.refuse _,Q,Q',S,hq,h=>by simp only[wpA]at h
def znj {ι:Type}(st:ι→St)(Q:Exit→St→Prop):Exit→St→Prop:=fun e S=>match e with|.normal=>∃i,S=st i|e=>Q e S
@[go_sem] theorem zog {ι : Type} {st : ι → St} {Q : Exit → St → Prop} {S : St} {k : Nat} : znj st Q (.exit k) S = Q (.exit k) S := rfl
@[go_sem] theorem zoU {ι : Type} {st : ι → St} {Q : Exit → St → Prop} {S : St} : znj st Q .ret S = Q .ret S := rfl
theorem zn:∀l:List AV,leL l l
 | []=>trivial
 |x::l=>⟨zkh x,zn l⟩
attribute [go_sem] has
end Go.AM
end
