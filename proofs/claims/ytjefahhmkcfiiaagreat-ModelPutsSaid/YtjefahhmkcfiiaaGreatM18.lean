/- A part of the proof of this seat's statements, by an abstract machine: what each operation does to values, and what the law's functions compute. Conditions: as each law says. -/
import Derived.Test.YtjefahhmkcfiiaaGreatM17
import Derived.KernelRfl
section
namespace Go.AM
def OpsK [Gi](P:Program)(ops:Array Oper)(rest:List Oper)(K:St→Prop):St→Prop:=fun S=>opsA P ops rest S K
def SeqK [Gi](P:Program)(D:List Nat)(y:Code)(Q:Exit→St→Prop):Exit→St→Prop:=fun e S=>match e with|.normal=>wpA P D y Q S|e=>Q e S
def BlkK(id:Nat)(Q:Exit→St→Prop):Exit→St→Prop:=fun e S=>match e with|.exit i=>if i=id then Q .normal S else Q (.exit i) S|e=>Q e S
def guardK [Gi](P:Program)(S:St)(o:Oper)(K:St→Prop):Option (Option Bool)→Prop
 |some c=>stepA P S o c K
 |none=>False
def pureK [Gi](P:Program)(S:St)(o:Oper)(K:St→Prop)(c:Option Bool):Option PR→Prop
 |some r=>match c with
  |none=>(r.1∧dOK S o.dst)∧K (S.putD o.dst r.2)
  |some c=>((c=true→r.1)∧dOK S o.dst)∧K (S.putD o.dst (.gd c r.2))
 |none=>match c with
  |none=>effK P S o K
  |some c=>(c=true→effK P S o K)∧(c=false→dOK S o.dst∧K (S.putD o.dst (.gd false .junk)))
def effKK [Gi](P:Program)(S:St)(o:Oper)(K:St→Prop):Option (Prop×St)→Prop
 |some r=>r.1∧K r.2
 |none=>callA P S o K
def condK [Gi](P:Program)(D:List Nat)(x y:Code)(Q:Exit→St→Prop)(S:St):AV→Prop
 |.p (.bool b)=>(b=true→wpA P D x Q S)∧(b=false→wpA P D y Q S)
 |_=>False
section
variable {P:Program} {D:List Nat} {ops:Array Oper} {S:St} {K:St→Prop} {Q:Exit→St→Prop}
@[go_sem] theorem opsA_nil [Gi] : opsA P ops [] S K = K S := _root_.id rfl
@[go_sem] theorem opsA_cons [Gi] {o : Oper} {rest : List Oper} : opsA P ops (o :: rest) S K = guardK P S o (OpsK P ops rest K) (guardA ops S o) := by
 simp only[opsA];unfold guardK;split<;>simp_all;rfl
@[go_sem] theorem OpsK_app [Gi] {rest : List Oper} : OpsK P ops rest K S = opsA P ops rest S K := _root_.id rfl
@[go_sem] theorem guardK_some [Gi] {o : Oper} {c : Option Bool} : guardK P S o K (some c) = pureK P S o K c (pureA P S o) := by
 unfold guardK stepA pureK;rfl
@[go_sem] theorem pureK_some [Gi] {o : Oper} {c : Prop} {x : AV} : pureK P S o K none (some (c, x)) = ((c ∧ dOK S o.dst) ∧ K (S.putD o.dst x)) := rfl
@[go_sem] theorem pureK_gd [Gi] {o : Oper} {b : Bool} {c : Prop} {x : AV} : pureK P S o K (some b) (some (c, x)) = (((b = true → c) ∧ dOK S o.dst) ∧ K (S.putD o.dst (.gd b x))) := rfl
@[go_sem] theorem pureK_eff [Gi] {o : Oper} : pureK P S o K none none = effKK P S o K (effE P S o) := by
 unfold pureK effK effKK;rfl
@[go_sem] theorem pureK_effgd [Gi] {o : Oper} {b : Bool} : pureK P S o K (some b) none = ((b = true → effKK P S o K (effE P S o)) ∧ (b = false → dOK S o.dst ∧ K (S.putD o.dst (.gd false .junk)))) := by
 unfold pureK effK effKK;rfl
@[go_sem] theorem effKK_some [Gi] {o : Oper} {c : Prop} {S' : St} : effKK P S o K (some (c, S')) = (c ∧ K S') := rfl
@[go_sem] theorem effKK_call [Gi] {o : Oper} : effKK P S o K none = callA P S o K := rfl
@[go_sem] theorem wpA_skip [Gi] : wpA P D .skip Q S = Q .normal S := _root_.id rfl
@[go_sem] theorem wpA_region [Gi] {id : Nat} {l : List Oper} : wpA P D (.region id l.toArray false) Q S = opsA P l.toArray l { S with ts := [] } (Q .normal) := _root_.id rfl
def DrawK [Gi](P:Program)(l:List Oper)(K:St→Prop)(S:St):Bool→Prop
 |true=>opsD P l.toArray l (preD P l S) K
 |false=>opsA P l.toArray l S K
def LateK [Gi](P:Program)(l:List Oper)(K:St→Prop)(S:St):Bool→Bool→Prop
 |true,_=>lateA P l.toArray S K
 |false,c=>DrawK P l K S c
def TreeK [Gi](P:Program)(l:List Oper)(K:St→Prop)(S:St):Bool→Bool→Bool→Prop
 |true,_,_=>treeA P l.toArray K S
 |false,b,c=>LateK P l K S b c
@[go_sem] theorem wpA_regionD [Gi] {id : Nat} {l : List Oper} : wpA P D (.region id l.toArray true) Q S = TreeK P l (Q .normal) { S with ts := [] } (D.contains (id + 200000)) (D.contains (id + 100000)) (D.contains id) := by
 unfold TreeK LateK DrawK
 simp only[wpA,Bool.true_and]
 cases D.contains (id+200000)<;>cases D.contains (id+100000)<;>cases D.contains id<;>rfl
@[go_sem] theorem TreeK_false [Gi] {l : List Oper} {K : St → Prop} {b c : Bool} : TreeK P l K S false b c = LateK P l K S b c := _root_.id rfl
theorem TreeK_of [Gi] {l:List Oper} {K:St→Prop} {b c:Bool}(t:OT)(h1:(Region.noSelect l.toArray&&okT l.toArray l.toArray.size (Array.replicate l.toArray.size false) t)=true)(h2:opsT P l.toArray K t S):TreeK P l K S true b c:=⟨t,K,h1,h2,fun _ h=>.inl h⟩
def stepT [Gi](P:Program)(ops:Array Oper)(S:St)(K:St→Prop):Option Oper→Prop
 |some o=>dynK (pureA P S o) (dynP o)∧guardK P S o K (guardA ops S o)
 |none=>False
def OpsTK [Gi](P:Program)(ops:Array Oper)(K:St→Prop)(t:OT):St→Prop:=fun S=>opsT P ops K t S
@[go_sem] theorem OpsTK_app [Gi] {ops : Array Oper} {K : St → Prop} {t : OT} : OpsTK P ops K t S = opsT P ops K t S := _root_.id rfl
@[go_sem] theorem opsT_now [Gi] {ops : Array Oper} {K : St → Prop} {i c : Nat} {t : OT} : opsT P ops K (.now i c t) S = nowO P S c (OpsTK P ops K t) ops[i]? := by simp only [opsT]; rfl
@[go_sem] theorem nowO_some {K : St → Prop} {c : Nat} {o : Oper} : nowO P S c K (some o) = nowK P S o c K (pureA P S o) := rfl
@[go_sem] theorem nowK_some {K : St → Prop} {c : Nat} {o : Oper} {p : Prop} {x : AV} : nowK P S o c K (some (p, x)) = ((p ∧ dOK S o.dst) ∧ lvlT c (inertS S o x) (isLoadO o || detA x) ∧ K (S.putD o.dst x)) := rfl
@[go_sem] theorem lvlT_0 {a b : Bool} : lvlT 0 a b = True := rfl
@[go_sem] theorem lvlT_1 {a b : Bool} : lvlT 1 a b = ((a || b) = true) := rfl
@[go_sem] theorem lvlT_2 {a b : Bool} : lvlT 2 a b = (a = true) := rfl
@[go_sem] theorem opsT_nil [Gi] {ops : Array Oper} {K : St → Prop} : opsT P ops K (.mk []) S = K S := by simp only [opsT]
@[go_sem] theorem opsT_cons [Gi] {ops : Array Oper} {K : St → Prop} {x : Nat × OT} {l : List (Nat × OT)} : opsT P ops K (.mk (x :: l)) S = opsTL P ops K (x :: l) S := by simp only [opsT]
@[go_sem] theorem opsTL_nil [Gi] {ops : Array Oper} {K : St → Prop} : opsTL P ops K [] S = True := by simp only [opsTL]
@[go_sem] theorem opsTL_cons [Gi] {ops : Array Oper} {K : St → Prop} {i : Nat} {t : OT} {l : List (Nat × OT)} : opsTL P ops K ((i, t) :: l) S = (stepT P ops S (OpsTK P ops K t) ops[i]? ∧ opsTL P ops K l S) := by
 simp only[opsTL]
 cases ops[i]? with
 |none=>rfl
 |some o=>simp only[stepT,guardK];cases guardA ops S o<;>rfl
@[go_sem] theorem stepT_some [Gi] {ops : Array Oper} {K : St → Prop} {o : Oper} : stepT P ops S K (some o) = (dynK (pureA P S o) (dynP o) ∧ guardK P S o K (guardA ops S o)) := rfl
@[go_sem] theorem dynK_false {o : Option PR} : dynK o false = True := rfl
@[go_sem] theorem LateK_true [Gi] {l : List Oper} {c : Bool} : LateK P l K S true c = lateA P l.toArray S K := _root_.id rfl
@[go_sem] theorem LateK_false [Gi] {l : List Oper} {c : Bool} : LateK P l K S false c = DrawK P l K S c := _root_.id rfl
def LateT(P:Program)(t:Tok)(ov:Nat)(rest:List Oper)(K:St→Prop):Option (Prop×St)→Prop
 |some r=>r.1∧tailL P t ov rest r.2 K
 |none=>False
def LatePu(P:Program)(t:Tok)(ov:Nat)(S:St)(o:Oper)(rest:List Oper)(K:St→Prop):Option PR→Prop
 |some r=>(r.1∧(isMove o || detA r.2)=true∧dOK S o.dst)∧opsL P t ov rest (S.putD o.dst r.2) K
 |none=>False
def LateH(P:Program)(t:Tok)(ov:Nat)(S:St)(o:Oper)(rest:List Oper)(K:St→Prop):Bool→Prop
 |true=>LatePu P t ov S o rest K (pureA P (junkR t S) o)
 |false=>tailL P t ov (o::rest) S K
@[go_sem] theorem opsL_nil {t : Tok} {ov : Nat} : opsL P t ov [] S K = K S := rfl
@[go_sem] theorem opsL_cons {t : Tok} {ov : Nat} {o : Oper} {rest : List Oper} : opsL P t ov (o :: rest) S K = LateH P t ov S o rest K (isPureC o) := by
 unfold LateH LatePu
 simp only[opsL]
 cases isPureC o
 ·rfl
 ·simp only[if_true]
  cases pureA P (junkR t S) o<;>rfl
@[go_sem] theorem tailL_nil {t : Tok} {ov : Nat} : tailL P t ov [] S K = K S := rfl
@[go_sem] theorem tailL_cons {t : Tok} {ov : Nat} {o : Oper} {rest : List Oper} : tailL P t ov (o :: rest) S K = LateT P t ov rest K (lateT P t ov S o) := by
 unfold LateT
 simp only[tailL]
 cases lateT P t ov S o<;>rfl
@[go_sem] theorem LateH_true {t : Tok} {ov : Nat} {o : Oper} {rest : List Oper} : LateH P t ov S o rest K true = LatePu P t ov S o rest K (pureA P (junkR t S) o) := rfl
@[go_sem] theorem LateH_false {t : Tok} {ov : Nat} {o : Oper} {rest : List Oper} : LateH P t ov S o rest K false = tailL P t ov (o :: rest) S K := rfl
@[go_sem] theorem LatePu_some {t : Tok} {ov : Nat} {o : Oper} {rest : List Oper} {r : PR} : LatePu P t ov S o rest K (some r) = ((r.1 ∧ (isMove o || detA r.2) = true ∧ dOK S o.dst) ∧ opsL P t ov rest (S.putD o.dst r.2) K) := rfl
@[go_sem] theorem LateT_some {t : Tok} {ov : Nat} {rest : List Oper} {r : Prop × St} : LateT P t ov rest K (some r) = (r.1 ∧ tailL P t ov rest r.2 K) := rfl
attribute [go_sem] inertS isScal dynP isLoadO
attribute [go_sem] lateP isMove detA detP detL junkR lateT lateA
@[go_sem] theorem DrawK_true [Gi] {l : List Oper} : DrawK P l K S true = opsD P l.toArray l (preD P l S) K := _root_.id rfl
@[go_sem] theorem DrawK_false [Gi] {l : List Oper} : DrawK P l K S false = opsA P l.toArray l S K := _root_.id rfl
def OpsDK [Gi](P:Program)(ops:Array Oper)(rest:List Oper)(K:St→Prop):St→Prop:=fun S=>opsD P ops rest S K
@[go_sem] theorem OpsDK_app [Gi] {rest : List Oper} : OpsDK P ops rest K S = opsD P ops rest S K := _root_.id rfl
def HCallK [Gi](P:Program)(S:St)(o:Oper)(c:Option Bool)(K:St→Prop):Prop:=∃x,(plainA x=true∧isVCall o=true∧(c≠some false→pcallA P S o x))∧dOK S o.dst∧K (S.putD o.dst (gv c x))
def headB [Gi](P:Program)(S:St)(o:Oper)(K:St→Prop)(c:Option Bool):Option PR→Prop
 |some r=>(c≠some false→r.1)∧dOK S o.dst∧K (S.putD o.dst (gv c r.2))
 |none=>HCallK P S o c K
def headP [Gi](P:Program)(S:St)(o:Oper)(K:St→Prop)(c:Option Bool):Option PR→Prop
 |some r=>(c≠some false→r.1)∧dOK S o.dst∧K (S.putD o.dst (gv c r.2))
 |none=>headB P S o K c (bsD P S o)
def headZ [Gi](P:Program)(S:St)(o:Oper)(K:St→Prop)(c:Option Bool):Option (Nat×List AV)→Prop
 |some (d,cs)=>(c=none∧S.pin.contains [d]=false∧lookT S.rs [d]=some cs)∧dOK S o.dst∧K (S.putD o.dst (.lp [d] 0))
 |none=>headP P S o K c (pureD P S o)
def headG [Gi](P:Program)(S:St)(o:Oper)(K:St→Prop):Option (Option Bool)→Prop
 |some c=>headZ P S o K c (allocZ P o)
 |none=>False
def headK [Gi](P:Program)(ops:Array Oper)(S:St)(o:Oper)(rest:List Oper)(K:St→Prop):Bool→Prop
 |true=>headG P S o (OpsDK P ops rest K) (guardA ops S o)
 |false=>opsA P ops (o::rest) S K
@[go_sem] theorem opsD_nil [Gi] : opsD P ops [] S K = K S := _root_.id rfl
@[go_sem] theorem opsD_cons [Gi] {o : Oper} {rest : List Oper} : opsD P ops (o :: rest) S K = headK P ops S o rest K (hdr o rest) := by
 unfold opsD headK
 cases hdr o rest
 ·simp
 ·simp only[if_true]
  unfold headG
  cases guardA ops S o with
  |none=>rfl
  |some c=>
   simp only[]
   unfold headZ headV
   cases hz:allocZ P o with
   |some dc=>
    obtain⟨d,cs⟩:=dc
    simp only[]
    refine propext ⟨?_,?_⟩
    ·rintro⟨x,⟨rfl,rfl,h1,h2⟩,h3,h4⟩;exact⟨⟨rfl,h1,h2⟩,h3,h4⟩
    ·rintro⟨⟨rfl,h1,h2⟩,h3,h4⟩;exact⟨_,⟨rfl,rfl,h1,h2⟩,h3,h4⟩
   |none=>
    simp only[]
    unfold headP
    cases hp:pureD P S o with
    |none=>
     simp only[]
     unfold headB
     cases hb:bsD P S o with
     |none=>simp only[];unfold HCallK;rfl
     |some r=>
      simp only[]
      refine propext ⟨?_,?_⟩
      ·rintro⟨x,⟨rfl,h1⟩,h2,h3⟩;exact⟨h1,h2,h3⟩
      ·rintro⟨h1,h2,h3⟩;exact⟨_,⟨rfl,h1⟩,h2,h3⟩
    |some r=>
     simp only[]
     refine propext ⟨?_,?_⟩
     ·rintro⟨x,⟨rfl,h1⟩,h2,h3⟩;exact⟨h1,h2,h3⟩
     ·rintro⟨h1,h2,h3⟩;exact⟨_,⟨rfl,h1⟩,h2,h3⟩
@[go_sem] theorem headK_true [Gi] {o : Oper} {rest : List Oper} : headK P ops S o rest K true = headG P S o (OpsDK P ops rest K) (guardA ops S o) := rfl
@[go_sem] theorem headK_false [Gi] {o : Oper} {rest : List Oper} : headK P ops S o rest K false = opsA P ops (o :: rest) S K := rfl
@[go_sem] theorem headG_some [Gi] {o : Oper} {c : Option Bool} : headG P S o K (some c) = headZ P S o K c (allocZ P o) := rfl
@[go_sem] theorem headZ_none [Gi] {o : Oper} {c : Option Bool} : headZ P S o K c none = headP P S o K c (pureD P S o) := rfl
@[go_sem] theorem headZ_some [Gi] {o : Oper} {c : Option Bool} {d : Nat} {cs : List AV} : headZ P S o K c (some (d, cs)) = ((c = none ∧ S.pin.contains [d] = false ∧ lookT S.rs [d] = some cs) ∧ dOK S o.dst ∧ K (S.putD o.dst (.lp [d] 0))) := rfl
@[go_sem] theorem headP_none [Gi] {o : Oper} {p : Prop} {x : AV} : headP P S o K none (some (p, x)) = (p ∧ dOK S o.dst ∧ K (S.putD o.dst x)) := by simp [headP, gv]
@[go_sem] theorem headP_some [Gi] {o : Oper} {b : Bool} {p : Prop} {x : AV} : headP P S o K (some b) (some (p, x)) = ((b = true → p) ∧ dOK S o.dst ∧ K (S.putD o.dst (.gd b x))) := by simp [headP, gv]
@[go_sem] theorem headP_call [Gi] {o : Oper} {c : Option Bool} : headP P S o K c none = headB P S o K c (bsD P S o) := rfl
@[go_sem] theorem headB_call [Gi] {o : Oper} {c : Option Bool} : headB P S o K c none = HCallK P S o c K := rfl
@[go_sem] theorem headB_none [Gi] {o : Oper} {p : Prop} {x : AV} : headB P S o K none (some (p, x)) = (p ∧ dOK S o.dst ∧ K (S.putD o.dst x)) := by simp [headB, gv]
@[go_sem] theorem wpA_seq [Gi] {x y : Code} : wpA P D (.seq x y) Q S = wpA P D x (SeqK P D y Q) S := _root_.id rfl
@[go_sem] theorem wpA_cond [Gi] {c : Operand} {x y : Code} : wpA P D (.cond c x y) Q S = condK P D x y Q S (S.ev c) := _root_.id rfl
@[go_sem] theorem wpA_block [Gi] {id : Nat} {c : Code} : wpA P D (.block id c) Q S = wpA P D c (BlkK id Q) S := _root_.id rfl
@[go_sem] theorem wpA_exit [Gi] {id : Nat} : wpA P D (.exit id) Q S = Q (.exit id) S := _root_.id rfl
@[go_sem] theorem wpA_ret [Gi] : wpA P D .ret Q S = Q .ret S := _root_.id rfl
@[go_sem] theorem condK_true [Gi] {x y : Code} : condK P D x y Q S (.p (.bool true)) = wpA P D x Q S := by simp [condK]
@[go_sem] theorem condK_false [Gi] {x y : Code} : condK P D x y Q S (.p (.bool false)) = wpA P D y Q S := by simp [condK]
theorem condK_split [Gi] {x y:Code} {b:Bool}(h1:b=true→wpA P D x Q S)(h2:b=false→wpA P D y Q S):condK P D x y Q S (.p (.bool b)):=⟨h1,h2⟩
theorem condK_if [Gi] {x y:Code} {p:Prop}[Decidable p](h1:p→wpA P D x Q S)(h2:¬p→wpA P D y Q S):condK P D x y Q S (.p (.bool (decide p))):=⟨fun h=>h1 (of_decide_eq_true h),fun h=>h2 (of_decide_eq_false h)⟩
theorem condK_ifn [Gi] {x y:Code} {p:Prop}[Decidable p](h1:¬p→wpA P D x Q S)(h2:p→wpA P D y Q S):condK P D x y Q S (.p (.bool (!decide p))):=⟨fun h=>h1 (by simpa using h),fun h=>h2 (by simpa using h)⟩
@[go_sem] theorem SeqK_normal [Gi] {y : Code} : SeqK P D y Q .normal S = wpA P D y Q S := _root_.id rfl
@[go_sem] theorem SeqK_exit [Gi] {y : Code} {i : Nat} : SeqK P D y Q (.exit i) S = Q (.exit i) S := _root_.id rfl
@[go_sem] theorem SeqK_ret [Gi] {y : Code} : SeqK P D y Q .ret S = Q .ret S := _root_.id rfl
@[go_sem] theorem BlkK_normal {id : Nat} : BlkK id Q .normal S = Q .normal S := rfl
@[go_sem] theorem BlkK_exit {id i : Nat} : BlkK id Q (.exit i) S = if i = id then Q .normal S else Q (.exit i) S := rfl
@[go_sem] theorem BlkK_ret {id : Nat} : BlkK id Q .ret S = Q .ret S := rfl
end
def LoopK {ι:Type}(inv:ι→Prop)(st:ι→St)(m:ι→Nat)(i:ι)(Q:Exit→St→Prop):Exit→St→Prop:=fun e S=>match e with|.normal=>∃j:{i:ι//inv i},LeR S (st j.1)∧m j.1<m i|e=>Q e S
@[go_sem] theorem LoopK_exit {ι : Type} {inv : ι → Prop} {st : ι → St} {m : ι → Nat} {i : ι} {Q : Exit → St → Prop} {S : St} {k : Nat} : LoopK inv st m i Q (.exit k) S = Q (.exit k) S := rfl
@[go_sem] theorem LoopK_ret {ι : Type} {inv : ι → Prop} {st : ι → St} {m : ι → Nat} {i : ι} {Q : Exit → St → Prop} {S : St} : LoopK inv st m i Q .ret S = Q .ret S := rfl
theorem LoopK_next {ι:Type} {inv:ι→Prop} {st:ι→St} {m:ι→Nat} {i:ι} {Q:Exit→St→Prop} {S:St}(j:ι)(h1:inv j)(h2:LeS S (st j))(h3:m j<m i):LoopK inv st m i Q .normal S:=⟨⟨j,h1⟩,.inl h2,h3⟩
theorem wpA_loop [Gi] {P:Program} {D:List Nat} {c:Code} {Q:Exit→St→Prop} {S:St} {ι:Type}(inv:ι→Prop)(st:ι→St)(m:ι→Nat)(i:ι)(hi:inv i)(h0:LeS S (st i))(h:∀i,inv i→wpA P D c (LoopK inv st m i Q) (st i)):wpA P D (.loop c) Q S:=
 ⟨{i:ι//inv i},fun i=>st i.1,fun i=>m i.1,⟨⟨i,hi⟩,h0⟩,fun i=>h i.1 i.2⟩
theorem elemAt_map {α:Type}(f:α→PV)(l:List α)(n:Nat)(h:n<l.length):elemAt (l.map f) n=f l[n]:=by simp[elemAt,h]
theorem leA_refl(x:AV):leA x x:=.inl rfl
theorem ret_is {P:Program} {ts:List (Nat×Option TypeId)} {R:AV→List (Tok×List AV)→Prop} {S:St}(x:AV)(hp:S.pin=[])(hx:(resOf P S ts).1∧leT ((resOf P S ts).2.upd (AM.fil (fun _=>false) ftt)) x)(hR:R x []):retA P [] ts R S:=by
 have e:(fun t:Tok=>([]:List Tok).contains t)=fun _=>false:=by funext t;simp
 refine⟨[],x,⟨hp,by rw[hp];rfl⟩,by rw[e];exact hx,?_⟩
 have:∀l:List (Tok×List AV),keepR [] l=[]:=fun l=>by simp[keepR]
 rw[this];exact hR
@[go_sem] theorem exitA_ret {P : Program} {pin : List Tok} {ts : List (Nat × Option TypeId)} {R : AV → List (Tok × List AV) → Prop} {S : St} : exitA P pin ts R .ret S = retA P pin ts R S := _root_.id rfl
@[go_sem] theorem exitA_normal {P : Program} {pin : List Tok} {ts : List (Nat × Option TypeId)} {R : AV → List (Tok × List AV) → Prop} {S : St} : exitA P pin ts R .normal S = retA P pin ts R S := _root_.id rfl
theorem wrap64 [Gi] {x:Int}(h1: -9223372036854775808≤x)(h2:x≤9223372036854775807):IntKind.i64.wrap x=x:=by
 simp only[IntKind.wrap,IntKind.signed,IntKind.bits]
 simp
 omega
attribute [go_sem] guardA guardV Option.map_some Option.map_none resV resAll okC eqC binE binSS binF binH binIN nilIfO ifNil binMN mapNil isNilMap slNil binSN isNilSlc mapUpdE mapEntD entStE rangeD entryR St.itz itz itz1 makeMapD keyOK isAg sbD isBytesD St.fz fz fz1 pureA effE un1 un2 unG St.ev St.get St.set St.kept look putL lookT putT orJunk St.putD dOK toPV isOs isNilSl zipN
attribute [go_sem] binA binII binBB binPP intBin strBin ptrRes ptrEq isNilPtr isAddr isBoolD isPtrD isAggD isSliceD isStrD isIntD isSrcD bad
attribute [go_sem] lenR lenA isStrA minMaxA pickA nilCheckA unA convA convB convS bytesP convPure fieldAddrA indexAddrA loadA loadIp allP partA fieldA indexA extractA sliceA sliceB sliceR isLpA isArrD optI sliceV sliceV.sl Option.bind_some Option.bind_none
attribute [go_sem] buildA partsA partsB isOw places fillL toP toP1 toPs PV.cells PV.one PV.fits allocE newRoot boxE assignE assignD ownSet elemSize storeE setRoot splice cellOK appendD dstA srcA buildSliceD sizedB fnOf
attribute [go_sem] bzC capsA renS growsA appendH appendG dstG srcG growRoot keptG buildRootD partC partsG fillG fil1 callA argsR argN AV.ren renG renF inM outM okM rootsR keptR keptT dropR backR afterS srcS copyD clearD makeSliceD zerosA
attribute [go_sem] St.fil AV.upd fil notHead neTok ftt
theorem CallK_of [Gi] {P:Program} {S:St} {f:FuncId} {args:List Operand} {dst:Option Nat} {K:St→Prop}(m:List (Tok×Tok)) {pin:List Tok} {as1:List AV} {rs:List (Tok×List AV)} {R:AV→List (Tok×List AV)→Prop}(hC:CR P f pin as1 rs R)
  (hm:okM (dst.getD S.n) m=true∧S.pin.all (keptR (dst.getD S.n) m pin)=true∧dOK S dst) (ha:(argsR S m args).1∧(argsR S m args).2=as1) (hr:rootsR S m m=rs)
  (hk:∀x rs',R x rs'→K ((afterS S (dst.getD S.n) m pin rs').putD dst (x.ren fun u=>some (outM (dst.getD S.n) m u)))):CallK P S f args dst K:=by
 subst hr
 obtain⟨ha,rfl⟩:=ha
 exact⟨m,pin,R,hm,ha,hC,hk⟩
theorem CallC_of [Gi] {P:Program} {S:St} {f:FuncId} {cs:List AV} {args:List Operand} {dst:Option Nat} {K:St→Prop}(m:List (Tok×Tok)) {pin:List Tok} {as1:List AV} {rs:List (Tok×List AV)} {R:AV→List (Tok×List AV)→Prop}(hC:CR P f pin as1 rs R)
  (hm:okM (dst.getD S.n) m=true∧S.pin.all (keptR (dst.getD S.n) m pin)=true∧dOK S dst) (ha:(argsR S m args).1∧(argsR S m args).2++cs.map (argN m)=as1) (hr:rootsR S m m=rs)
  (hk:∀x rs',R x rs'→K ((afterS S (dst.getD S.n) m pin rs').putD dst (x.ren fun u=>some (outM (dst.getD S.n) m u)))):CallC P S f cs args dst K:=by
 subst hr
 obtain⟨ha,rfl⟩:=ha
 exact⟨m,pin,R,hm,ha,hC,hk⟩
theorem ret_keep {P:Program} {pin:List Tok} {ts:List (Nat×Option TypeId)} {R:AV→List (Tok×List AV)→Prop} {S:St}(kr:List Tok)(x:AV)(hp:S.pin=pin∧pin.all (fun t=>kr.contains t)=true)(hx:(resOf P S ts).1∧leT ((resOf P S ts).2.upd (AM.fil (fun t=>kr.contains t) ftt)) x)(hR:R x (keepR kr (S.fil (fun t=>kr.contains t) ftt).rs)):retA P pin ts R S:=by
 obtain⟨rfl,hp⟩:=hp
 exact⟨kr,x,⟨rfl,hp⟩,hx,hR⟩
attribute [go_sem] keepR List.getElem?_cons_zero
def St.ofR(rs:List (Tok×List AV)):St:={n:=0,nv:=0,vs:=[],ts:=[],rs:=rs}
theorem GS.give [Gi] {g:Gh} {w:World} {rs:List (Tok×List AV)}(h:GS g w rs) {d:Nat} {m:List (Tok×Tok)}(ok:okM d m=true):GS (g.give m) w (rootsR (St.ofR rs) m m):=by
 refine⟨fun b u hk=>?_,fun b b' u hk hk'=>?_,fun b b' u hk hk'=>?_,fun b hb=>h.own b (fun e=>hb ?_),h.frb,fun b arr e=>⟨by show(g.K b).ren _=.prot;rw[(h.gl b arr e).1];rfl,(h.gl b arr e).2⟩⟩
 ·obtain⟨t,hk,hu⟩:=Kd.ren_root.1 hk
  obtain⟨cs,hl,h0,arr,T,hb,hle,hc⟩:=h.roots b t hk
  refine⟨_,rootsR_look (S:=St.ofR rs) (inM_look ok hu) hl,h0,arr,T,hb,by simpa using hle,fun j x hj=>?_⟩
  simp only[List.getElem?_map,Option.map_eq_some_iff]at hj
  obtain⟨y,hy,rfl⟩:=hj
  obtain⟨v,hv,h1,r⟩:=hc j y hy
  exact⟨v,hv,h1,RepA.ren (Ren.give g m) _ _ r⟩
 ·obtain⟨t,hk,hu⟩:=Kd.ren_root.1 hk
  obtain⟨t',hk',hu'⟩:=Kd.ren_root.1 hk'
  have e:=inM_look ok hu
  rw[inM_look ok hu']at e;injection e with e;subst e
  exact h.ur b b' _ hk hk'
 ·obtain⟨t,hk,hu⟩:=Kd.ren_tail.1 hk
  obtain⟨t',hk',hu'⟩:=Kd.ren_tail.1 hk'
  have e:=inM_look ok hu
  rw[inM_look ok hu']at e;injection e with e;subst e
  exact h.ut b b' _ hk hk'
 ·show(g.K b).ren _=.prot
  rw[e];rfl
theorem CR.ren [Gi] {P:Program} {f:FuncId} {pin:List Tok} {args:List AV} {rs:List (Tok×List AV)} {R R':AV→List (Tok×List AV)→Prop}(h:CR P f pin args rs R)(d:Nat)
  (hr:∀x rs',R x rs'→∃m,okM d m=true∧pin.all (fun t=>inM m t==some t)=true∧R' (x.ren (inM m)) (rootsR (St.ofR rs') m m)):CR P f pin args rs R':=by
 intro w g vs h1 h2
 refine(h w g vs h1 h2).mono ?_
 rintro e w' ⟨v,x,rs',g',rfl,hR,hx,hG,hA⟩
 obtain⟨m,ok,hp,hR'⟩:=hr x rs' hR
 refine⟨v,_,_,g'.give m,rfl,hR',RepA.ren (Ren.give g' m) _ _ hx,hG.give ok,⟨fun b hb hk=>?_,hA.ext,hA.out,hA.mono,fun b t hk ht=>?_⟩⟩
 ·obtain⟨a1,a2,a3⟩:=hA.frame b hb hk
  exact⟨a1,a2,by show(g'.K b).ren _=.prot;rw[a3];rfl⟩
 ·have:=List.all_eq_true.1 hp t ht
  simp at this
  exact⟨Kd.ren_root.2 ⟨t,(hA.pins b t hk ht).1,this⟩,(hA.pins b t hk ht).2⟩
attribute [go_sem] St.ofR leT leP
theorem pcallA_of [Gi] {P:Program} {S:St} {dst:Option Nat} {x:Operand} {args:Array Operand} {argTypes:Array TypeId} {tt:TypeId} {pos:String} {after:Array Edge} {guard:Option (Nat×Bool)} {r:AV}(f:FuncId) {as1:List AV}
  (hC:CR P f [] as1 [] fun y rs=>rs=[]∧y=r) (hf:fnOf (S.ev x)=some f) (hb:((P.funcs[f]?).map (·.body.isSome))=some true∧((P.funcs[f]?).map (·.name))≠some "runtime.NumGoroutine")
  (ha:(argsR S [] args.toList).1∧(argsR S [] args.toList).2=as1):pcallA P S ⟨dst,.call ⟨.value x,args,argTypes⟩,tt,pos,after,guard⟩ r:=by
 unfold pcallA
 simp only[hf]
 obtain⟨h1,rfl⟩:=ha
 exact⟨hb,h1,hC⟩
theorem HCallK_of [Gi] {P:Program} {S:St} {o:Oper} {c:Option Bool} {K:St→Prop}(x:AV)(hx:plainA x=true)(hv:isVCall o=true)(hp:c≠some false→pcallA P S o x)(hk:dOK S o.dst∧K (S.putD o.dst (gv c x))):HCallK P S o c K:=
 ⟨x,⟨hx,hv,hp⟩,hk⟩
attribute [go_sem] gv pureD bsD bsR isBS isCv isLateA isHead hdr List.isEmpty_cons List.isEmpty_nil isVCall isPureC isAllocO allocZ preO preD
def reps {α:Type}(n:Nat)(c:List α):List α:=(List.replicate n c).flatten
theorem length_reps {α:Type}(n:Nat)(c:List α):(reps n c).length=n*c.length:=by simp[reps]
end Go.AM
end
