/- A part of the proof of this seat's statements, by an abstract machine: what each operation does to values, proved over the model, whatever the program. No condition beyond those that stand. -/
import Derived.Test.YtklhmamefbehjaaAmQ
import Derived.KernelRfl
namespace Go.AM
/-! ### The machine as rewrite rules: what follows is kept behind names, so that a walk goes in order. -/
def OpsK (P : Program) (ops : Array Oper) (rest : List Oper) (K : St → Prop) : St → Prop := fun S => opsA P ops rest S K
def SeqK (P : Program) (y : Code) (Q : Exit → St → Prop) : Exit → St → Prop := fun e S => match e with | .normal => wpA P y Q S | e => Q e S
def BlkK (id : Nat) (Q : Exit → St → Prop) : Exit → St → Prop := fun e S => match e with | .exit i => if i = id then Q .normal S else Q (.exit i) S | e => Q e S
def guardK (P : Program) (S : St) (o : Oper) (K : St → Prop) : Option (Option Bool) → Prop
  | some c => stepA P S o c K
  | none => False
def pureK (P : Program) (S : St) (o : Oper) (K : St → Prop) (c : Option Bool) : Option PR → Prop
  | some r => match c with
    | none => (r.1 ∧ dOK S o.dst) ∧ K (S.putD o.dst r.2)
    | some c => ((c = true → r.1) ∧ dOK S o.dst) ∧ K (S.putD o.dst (.gd c r.2))
  | none => match c with
    | none => effK P S o K
    | some c => (c = true → effK P S o K) ∧ (c = false → dOK S o.dst ∧ K (S.putD o.dst (.gd false .junk)))
def effKK (P : Program) (S : St) (o : Oper) (K : St → Prop) : Option (Prop × St) → Prop
  | some r => r.1 ∧ K r.2
  | none => callA P S o K
def condK (P : Program) (x y : Code) (Q : Exit → St → Prop) (S : St) : AV → Prop
  | .p (.bool b) => (b = true → wpA P x Q S) ∧ (b = false → wpA P y Q S)
  | _ => False
section
variable {P : Program} {ops : Array Oper} {S : St} {K : St → Prop} {Q : Exit → St → Prop}
@[go_sem] theorem opsA_nil : opsA P ops [] S K = K S := rfl
@[go_sem] theorem opsA_cons {o : Oper} {rest : List Oper} : opsA P ops (o :: rest) S K = guardK P S o (OpsK P ops rest K) (guardA ops S o) := by
  simp only [opsA]; unfold guardK; split <;> simp_all [OpsK]; rfl
@[go_sem] theorem OpsK_app {rest : List Oper} : OpsK P ops rest K S = opsA P ops rest S K := rfl
@[go_sem] theorem guardK_some {o : Oper} {c : Option Bool} : guardK P S o K (some c) = pureK P S o K c (pureA P S o) := by
  unfold guardK stepA pureK; rfl
@[go_sem] theorem pureK_some {o : Oper} {c : Prop} {x : AV} : pureK P S o K none (some (c, x)) = ((c ∧ dOK S o.dst) ∧ K (S.putD o.dst x)) := rfl
@[go_sem] theorem pureK_gd {o : Oper} {b : Bool} {c : Prop} {x : AV} : pureK P S o K (some b) (some (c, x)) = (((b = true → c) ∧ dOK S o.dst) ∧ K (S.putD o.dst (.gd b x))) := rfl
@[go_sem] theorem pureK_eff {o : Oper} : pureK P S o K none none = effKK P S o K (effE P S o) := by
  unfold pureK effK effKK; rfl
@[go_sem] theorem pureK_effgd {o : Oper} {b : Bool} : pureK P S o K (some b) none = ((b = true → effKK P S o K (effE P S o)) ∧ (b = false → dOK S o.dst ∧ K (S.putD o.dst (.gd false .junk)))) := by
  unfold pureK effK effKK; rfl
@[go_sem] theorem effKK_some {o : Oper} {c : Prop} {S' : St} : effKK P S o K (some (c, S')) = (c ∧ K S') := rfl
@[go_sem] theorem effKK_call {o : Oper} : effKK P S o K none = callA P S o K := rfl
@[go_sem] theorem wpA_skip : wpA P .skip Q S = Q .normal S := rfl
@[go_sem] theorem wpA_region {id : Nat} {l : List Oper} {d : Bool} : wpA P (.region id l.toArray d) Q S = opsA P l.toArray l { S with ts := [] } (Q .normal) := rfl
@[go_sem] theorem wpA_seq {x y : Code} : wpA P (.seq x y) Q S = wpA P x (SeqK P y Q) S := rfl
@[go_sem] theorem wpA_cond {c : Operand} {x y : Code} : wpA P (.cond c x y) Q S = condK P x y Q S (S.ev c) := rfl
@[go_sem] theorem wpA_block {id : Nat} {c : Code} : wpA P (.block id c) Q S = wpA P c (BlkK id Q) S := rfl
@[go_sem] theorem wpA_exit {id : Nat} : wpA P (.exit id) Q S = Q (.exit id) S := rfl
@[go_sem] theorem wpA_ret : wpA P .ret Q S = Q .ret S := rfl
@[go_sem] theorem condK_true {x y : Code} : condK P x y Q S (.p (.bool true)) = wpA P x Q S := by simp [condK]
@[go_sem] theorem condK_false {x y : Code} : condK P x y Q S (.p (.bool false)) = wpA P y Q S := by simp [condK]
theorem condK_split {x y : Code} {b : Bool} (h1 : b = true → wpA P x Q S) (h2 : b = false → wpA P y Q S) : condK P x y Q S (.p (.bool b)) := ⟨h1, h2⟩
theorem condK_if {x y : Code} {p : Prop} [Decidable p] (h1 : p → wpA P x Q S) (h2 : ¬ p → wpA P y Q S) : condK P x y Q S (.p (.bool (decide p))) := ⟨fun h => h1 (of_decide_eq_true h), fun h => h2 (of_decide_eq_false h)⟩
theorem condK_ifn {x y : Code} {p : Prop} [Decidable p] (h1 : ¬ p → wpA P x Q S) (h2 : p → wpA P y Q S) : condK P x y Q S (.p (.bool (!decide p))) := ⟨fun h => h1 (by simpa using h), fun h => h2 (by simpa using h)⟩
@[go_sem] theorem SeqK_normal {y : Code} : SeqK P y Q .normal S = wpA P y Q S := rfl
@[go_sem] theorem SeqK_exit {y : Code} {i : Nat} : SeqK P y Q (.exit i) S = Q (.exit i) S := rfl
@[go_sem] theorem SeqK_ret {y : Code} : SeqK P y Q .ret S = Q .ret S := rfl
@[go_sem] theorem BlkK_normal {id : Nat} : BlkK id Q .normal S = Q .normal S := rfl
@[go_sem] theorem BlkK_exit {id i : Nat} : BlkK id Q (.exit i) S = if i = id then Q .normal S else Q (.exit i) S := rfl
@[go_sem] theorem BlkK_ret {id : Nat} : BlkK id Q .ret S = Q .ret S := rfl
end
def LoopK {ι : Type} (inv : ι → Prop) (st : ι → St) (m : ι → Nat) (i : ι) (Q : Exit → St → Prop) : Exit → St → Prop := fun e S => match e with | .normal => ∃ j : { i : ι // inv i }, LeS S (st j.1) ∧ m j.1 < m i | e => Q e S
@[go_sem] theorem LoopK_exit {ι : Type} {inv : ι → Prop} {st : ι → St} {m : ι → Nat} {i : ι} {Q : Exit → St → Prop} {S : St} {k : Nat} : LoopK inv st m i Q (.exit k) S = Q (.exit k) S := rfl
@[go_sem] theorem LoopK_ret {ι : Type} {inv : ι → Prop} {st : ι → St} {m : ι → Nat} {i : ι} {Q : Exit → St → Prop} {S : St} : LoopK inv st m i Q .ret S = Q .ret S := rfl
theorem LoopK_next {ι : Type} {inv : ι → Prop} {st : ι → St} {m : ι → Nat} {i : ι} {Q : Exit → St → Prop} {S : St} (j : ι) (h1 : inv j) (h2 : LeS S (st j)) (h3 : m j < m i) : LoopK inv st m i Q .normal S := ⟨⟨j, h1⟩, h2, h3⟩
theorem wpA_loop {P : Program} {c : Code} {Q : Exit → St → Prop} {S : St} {ι : Type} (inv : ι → Prop) (st : ι → St) (m : ι → Nat) (i : ι) (hi : inv i) (h0 : LeS S (st i)) (h : ∀ i, inv i → wpA P c (LoopK inv st m i Q) (st i)) : wpA P (.loop c) Q S :=
  ⟨{ i : ι // inv i }, fun i => st i.1, fun i => m i.1, ⟨⟨i, hi⟩, h0⟩, fun i => h i.1 i.2⟩
theorem elemAt_map {α : Type} (f : α → PV) (l : List α) (n : Nat) (h : n < l.length) : elemAt (l.map f) n = f l[n] := by simp [elemAt, h]
theorem leA_refl (x : AV) : leA x x := .inl rfl
/-- The end of a function that keeps no roots. -/
theorem ret_is {P : Program} {ts : List (Nat × Option TypeId)} {R : AV → List (Tok × List AV) → Prop} {S : St} (x : AV) (hp : S.pin = []) (hx : (resOf P S ts).1 ∧ leT ((resOf P S ts).2.upd (AM.fil (fun _ => false) ftt)) x) (hR : R x []) : retA P [] ts R S := by
  have e : (fun t : Tok => ([] : List Tok).contains t) = fun _ => false := by funext t; simp
  refine ⟨[], x, ⟨hp, by rw [hp]; rfl⟩, by rw [e]; exact hx, ?_⟩
  have : ∀ l : List (Tok × List AV), keepR [] l = [] := fun l => by simp [keepR]
  rw [this]; exact hR
@[go_sem] theorem exitA_ret {P : Program} {pin : List Tok} {ts : List (Nat × Option TypeId)} {R : AV → List (Tok × List AV) → Prop} {S : St} : exitA P pin ts R .ret S = retA P pin ts R S := rfl
@[go_sem] theorem exitA_normal {P : Program} {pin : List Tok} {ts : List (Nat × Option TypeId)} {R : AV → List (Tok × List AV) → Prop} {S : St} : exitA P pin ts R .normal S = retA P pin ts R S := rfl
theorem wrap64 {x : Int} (h1 : -9223372036854775808 ≤ x) (h2 : x ≤ 9223372036854775807) : IntKind.i64.wrap x = x := by
  simp only [IntKind.wrap, IntKind.signed, IntKind.bits]
  simp
  omega
attribute [go_sem] guardA guardV Option.map_some Option.map_none resV resAll kindsOf okC eqC binE binSS pureA effE un1 un2 unG St.ev St.get St.set St.kept look putL lookT putT orJunk St.putD dOK toPV isOs isNilSl zipN
attribute [go_sem] binA binII binBB binPP intBin strBin ptrRes ptrEq isNilPtr isAddr isBoolD isPtrD isAggD isSliceD isStrD isIntD isSrcD bad
attribute [go_sem] lenR lenA isStrA minMaxA pickA nilCheckA unA convA convPure fieldAddrA indexAddrA loadA loadIp allP partA fieldA indexA extractA sliceA optI sliceV sliceV.sl
attribute [go_sem] buildA partsA places fillL toP PV.cells PV.one PV.fits allocE newRoot boxE assignE assignD ownSet elemSize storeE setRoot splice cellOK appendD dstA srcA buildSliceD sizedB fnOf
attribute [go_sem] partC partsG fillG fil1 callA argsR argN AV.ren renG renF inM outM okM rootsR keptR keptT dropR backR afterS srcS copyD clearD makeSliceD zerosA
attribute [go_sem] St.fil AV.upd fil notHead neTok ftt
theorem CallK_of {P : Program} {S : St} {f : FuncId} {args : List Operand} {dst : Option Nat} {K : St → Prop} (m : List (Tok × Tok)) {pin : List Tok} {as : List AV} {rs : List (Tok × List AV)} {R : AV → List (Tok × List AV) → Prop} (hC : CR P f pin as rs R)
    (hm : okM (dst.getD S.n) m = true ∧ S.pin.all (keptR (dst.getD S.n) m pin) = true ∧ dOK S dst) (ha : (argsR S m args).1 ∧ (argsR S m args).2 = as) (hr : rootsR S m m = rs)
    (hk : ∀ x rs', R x rs' → K ((afterS S (dst.getD S.n) m pin rs').putD dst (x.ren fun u => some (outM (dst.getD S.n) m u)))) : CallK P S f args dst K := by
  subst hr
  obtain ⟨ha, rfl⟩ := ha
  exact ⟨m, pin, R, hm, ha, hC, hk⟩
/-- The end of a function that keeps these roots. -/
theorem ret_keep {P : Program} {pin : List Tok} {ts : List (Nat × Option TypeId)} {R : AV → List (Tok × List AV) → Prop} {S : St} (kr : List Tok) (x : AV) (hp : S.pin = pin ∧ pin.all (fun t => kr.contains t) = true) (hx : (resOf P S ts).1 ∧ leT ((resOf P S ts).2.upd (AM.fil (fun t => kr.contains t) ftt)) x) (hR : R x (keepR kr (S.fil (fun t => kr.contains t) ftt).rs)) : retA P pin ts R S := by
  obtain ⟨rfl, hp⟩ := hp
  exact ⟨kr, x, ⟨rfl, hp⟩, hx, hR⟩
attribute [go_sem] keepR List.getElem?_cons_zero
/-- Roots, by themselves. -/
def St.ofR (rs : List (Tok × List AV)) : St := { n := 0, nv := 0, vs := [], ts := [], rs := rs }
theorem GS.give {g : Gh} {w : World} {rs : List (Tok × List AV)} (h : GS g w rs) {d : Nat} {m : List (Tok × Tok)} (ok : okM d m = true) : GS (g.give m) w (rootsR (St.ofR rs) m m) := by
  refine ⟨fun b u hk => ?_, fun b b' u hk hk' => ?_, fun b b' u hk hk' => ?_, fun b hb => h.own b (fun e => hb ?_), h.frb⟩
  · obtain ⟨t, hk, hu⟩ := Kd.ren_root.1 hk
    obtain ⟨cs, hl, h0, arr, T, hb, hle, hc⟩ := h.roots b t hk
    refine ⟨_, rootsR_look (S := St.ofR rs) (inM_look ok hu) hl, h0, arr, T, hb, by simpa using hle, fun j x hj => ?_⟩
    simp only [List.getElem?_map, Option.map_eq_some_iff] at hj
    obtain ⟨y, hy, rfl⟩ := hj
    obtain ⟨v, hv, h1, r⟩ := hc j y hy
    exact ⟨v, hv, h1, RepA.ren (Ren.give g m) _ _ r⟩
  · obtain ⟨t, hk, hu⟩ := Kd.ren_root.1 hk
    obtain ⟨t', hk', hu'⟩ := Kd.ren_root.1 hk'
    have e := inM_look ok hu
    rw [inM_look ok hu'] at e; injection e with e; subst e
    exact h.ur b b' _ hk hk'
  · obtain ⟨t, hk, hu⟩ := Kd.ren_tail.1 hk
    obtain ⟨t', hk', hu'⟩ := Kd.ren_tail.1 hk'
    have e := inM_look ok hu
    rw [inM_look ok hu'] at e; injection e with e; subst e
    exact h.ut b b' _ hk hk'
  · show (g.K b).ren _ = .prot
    rw [e]; rfl
/-- A contract with other names for what comes back. -/
theorem CR.ren {P : Program} {f : FuncId} {pin : List Tok} {args : List AV} {rs : List (Tok × List AV)} {R R' : AV → List (Tok × List AV) → Prop} (h : CR P f pin args rs R) (d : Nat)
    (hr : ∀ x rs', R x rs' → ∃ m, okM d m = true ∧ pin.all (fun t => inM m t == some t) = true ∧ R' (x.ren (inM m)) (rootsR (St.ofR rs') m m)) : CR P f pin args rs R' := by
  intro w g vs h1 h2
  refine (h w g vs h1 h2).mono ?_
  rintro e w' ⟨v, x, rs', g', rfl, hR, hx, hG, hA⟩
  obtain ⟨m, ok, hp, hR'⟩ := hr x rs' hR
  refine ⟨v, _, _, g'.give m, rfl, hR', RepA.ren (Ren.give g' m) _ _ hx, hG.give ok, ⟨fun b hb hk => ?_, hA.ext, hA.out, hA.mono, fun b t hk ht => ?_⟩⟩
  · obtain ⟨a1, a2, a3⟩ := hA.frame b hb hk
    exact ⟨a1, a2, by show (g'.K b).ren _ = .prot; rw [a3]; rfl⟩
  · have := List.all_eq_true.1 hp t ht
    simp at this
    exact Kd.ren_root.2 ⟨t, hA.pins b t hk ht, this⟩
attribute [go_sem] St.ofR leT leP
end Go.AM
