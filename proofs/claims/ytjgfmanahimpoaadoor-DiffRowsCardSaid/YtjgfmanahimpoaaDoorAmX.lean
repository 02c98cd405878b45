/- A part of the proof of this seat's statements, by an abstract machine: what each operation does to values, proved over the model, whatever the program. No condition beyond those that stand. -/
import Derived.Test.YtjgfmanahimpoaaDoorAmV
namespace Go.AM
open Go.ChangeShapes Go.RowKit Go.WideShapes
/-! ### The row, with how much each of what is handed in weighs -/
section
variable {H : Type} {enc : TypeId × Value → H} {P : Program} {w : World} {base : Nat} {spare : Nat → Bool} {held : Bool}
def fitsW (l : List Nat) : Bool := l.all (· ≤ reachBytes)
theorem fitsW_app {l m : List Nat} : fitsW (l ++ m) = (fitsW l && fitsW m) := by simp [fitsW]
/-- A reading that weighs no more than may be gives cells with this form. -/
def OpensW (enc : TypeId × Value → H) (P : Program) (w : World) (base : Nat) (spare : Nat → Bool) (held : Bool) (t : TypeId) (Q : List PV → Prop) : Prop :=
  ∀ (fuel : Nat) (cs : List Value) (x : DataW H × List MemPlace), DataW.trod enc P w base spare held fuel t cs = some x → fitsW (x.1.weights P t) = true → ∃ xs, Q xs ∧ RepL (frW w) w xs cs
theorem opensW_of {t : TypeId} {Q : List PV → Prop} (h : Opens enc P w base spare held t Q) : OpensW enc P w base spare held t Q := fun fuel cs x e _ => h fuel cs x e
theorem opensW_string {t : TypeId} (ht : P.underlying t = some .string) : OpensW enc P w base spare held t fun xs => ∃ s, xs = [.str s] ∧ s.length ≤ reachBytes := by
  intro fuel cs x h hw
  cases fuel with
  | zero => simp [DataW.trod] at h
  | succ n =>
    unfold DataW.trod at h
    rw [ht] at h
    split at h <;> simp_all
    rename_i s
    obtain ⟨_, rfl⟩ := h
    simp [fitsW, DataW.weights] at hw
    exact ⟨[.str s.data.toList], ⟨_, rfl, by simpa using hw⟩, ⟨_, [], rfl, rfl, by simp only [RepP], rfl⟩⟩
def AllW (enc : TypeId × Value → H) (P : Program) (w : World) (base : Nat) (spare : Nat → Bool) (held : Bool) : List Field → List (List PV → Prop) → Prop
  | [], [] => True
  | f :: fs, Q :: Qs => OpensW enc P w base spare held f.type Q ∧ AllW enc P w base spare held fs Qs
  | _, _ => False
theorem opensW_parts {cs : List Value} {m : Nat} : ∀ {fs : List Field} {Qs : List (List PV → Prop)} {o : Nat} {ys : List (DataW H × List MemPlace)}, AllW enc P w base spare held fs Qs → laid P fs o cs.length = true →
    ys.length = fs.length → (∀ (i : Nat) (f : Field), fs[i]? = some f → DataW.trod enc P w base spare held m f.type ((cs.drop f.offset).take (P.cellsOf f.type)) = ys[i]?) →
    fitsW (DataW.weightsEach P (fs.map (·.type)) (ys.map (·.1))) = true → ∃ xs, PartsQ Qs xs ∧ RepL (frW w) w xs (cs.drop o)
  | [], [], o, _, _, hl, _, _, _ => by
    simp only [laid, beq_iff_eq] at hl
    exact ⟨[], rfl, by simp [RepL, hl]⟩
  | [], _ :: _, _, _, h, _, _, _, _ => h.elim
  | _ :: _, [], _, _, h, _, _, _, _ => h.elim
  | _ :: _, _ :: _, _, [], _, _, e, _, _ => by simp at e
  | f :: fs, Q :: Qs, o, y :: ys, h, hl, hn, hy, hw => by
    simp only [laid, Bool.and_eq_true, beq_iff_eq] at hl
    simp only [List.map_cons, DataW.weightsEach, fitsW_app, Bool.and_eq_true] at hw
    have e := hy 0 f rfl
    obtain ⟨a, qa, ra⟩ := h.1 _ _ y (by simpa using e) hw.1
    obtain ⟨b, qb, rb⟩ := opensW_parts (ys := ys) h.2 hl.2 (by simpa using hn) (fun i g hg => by simpa using hy (i + 1) g (by simpa using hg)) hw.2
    refine ⟨a ++ b, ⟨a, b, rfl, qa, qb⟩, ?_⟩
    rw [hl.1] at ra
    rw [← List.take_append_drop (P.cellsOf f.type) (cs.drop o), List.drop_drop]
    exact RepL.append ra rb
theorem opensW_struct {t : TypeId} {fs : Array Field} {Qs : List (List PV → Prop)} (ht : P.underlying t = some (.struct fs)) (hl : laid P fs.toList 0 (P.cellsOf t) = true) (hQ : AllW enc P w base spare held fs.toList Qs) :
    OpensW enc P w base spare held t (PartsQ Qs) := by
  intro fuel cs x h hw
  obtain ⟨xs, n, _, rfl, hc, hlen, hf⟩ := DataW.trod_struct ht h
  rw [← hc] at hl
  simp only [DataW.weights, ht] at hw
  obtain ⟨ys, q, r⟩ := opensW_parts (cs := cs) (m := n) (ys := xs) hQ hl (by simpa using hlen) (fun i f hi => hf i f (by simpa using hi)) hw
  exact ⟨ys, q, by simpa using r⟩
theorem fitsW_all {e : TypeId} : ∀ {l : List (DataW H)} {i : Nat} {d : DataW H}, fitsW (DataW.weightsAll P e l) = true → l[i]? = some d → fitsW (d.weights P e) = true
  | [], i, d, _, h => by simp at h
  | x :: l, i, d, hw, h => by
    simp only [DataW.weightsAll, fitsW_app, Bool.and_eq_true] at hw
    cases i with
    | zero => simp at h; subst h; exact hw.1
    | succ i => exact fitsW_all hw.2 (by simpa using h)
theorem opensW_slice {t e : TypeId} {QE : PV → Prop} (ht : P.underlying t = some (.slice e)) (hz : 0 < P.cellsOf e)
    (hel : ∀ (fuel : Nat) (cs : List Value) (x : DataW H × List MemPlace), DataW.trod enc P w base spare held fuel e cs = some x → fitsW (x.1.weights P e) = true → ∃ el v, QE el ∧ RepP (frW w) w el v ∧ v.cells.toList = cs ∧ ∀ c ∈ cs, c.oneCell' = true) :
    OpensW enc P w base spare held t fun xs => ∃ es, xs = [.sl (P.cellsOf e) es] ∧ ∀ el ∈ es, QE el := by
  intro fuel cs x h hw
  rcases Go.Deep.open_slice ht h with ⟨rfl, _⟩ | ⟨a, len, cap, m, n, D, Pl, rfl, hb, hlc, _, hm, hx, hi⟩
  · exact ⟨_, ⟨[], rfl, by simp⟩, by simp only [RepL, RepP]; exact ⟨_, [], rfl, rfl, .inl ⟨trivial, _, _, rfl⟩, rfl⟩⟩
  · have hlm : len ≤ m := by rw [hm]; split <;> omega
    rw [hx] at hw
    simp only [DataW.weights, ht] at hw
    have hwl : fitsW (DataW.weightsAll P e ((List.range len).map D)) = true := by
      have : fitsW (DataW.weightsAll P e ((List.range len).map D) ++ DataW.weightsAll P e ((List.range (m - len)).map fun j => D (len + j))) = true := by
        simp only [fitsW, List.all_cons, Bool.and_eq_true] at hw ⊢
        exact hw.2
      rw [fitsW_app, Bool.and_eq_true] at this
      exact this.1
    have each : ∀ i, i < len → ∃ el v, QE el ∧ RepP (frW w) w el v ∧ v.cells.size = P.cellsOf e ∧ ∀ j c, v.cells[j]? = some c → c.oneCell' = true ∧ w.cell? ((a.add (i * P.cellsOf e)).add j) = some c := by
      intro i hil
      obtain ⟨cs', h1, h2⟩ := hi i (by omega)
      obtain ⟨el, v, q, r, hv, hone⟩ := hel _ _ _ h2 (fitsW_all hwl (i := i) (by simp [hil]))
      obtain ⟨k1, k2, k3⟩ := World.cells?_some h1
      refine ⟨el, v, q, r, by have : v.cells.toList.length = cs'.length := by rw [hv]
                              simpa [k2] using this, fun j c hj => ?_⟩
      have hj' : cs'[j]? = some c := by rw [← hv]; simpa using hj
      have hjl : j < P.cellsOf e := by have := (List.getElem?_eq_some_iff.1 hj').1; omega
      exact ⟨hone c (List.mem_of_getElem? hj'), (k3 j hjl).trans hj'⟩
    obtain ⟨es, hlen, hes⟩ := choose_list each
    subst hlen
    refine ⟨_, ⟨es, rfl, fun el hel' => ?_⟩, ?_⟩
    · obtain ⟨i, hi'⟩ := List.mem_iff_getElem?.1 hel'
      obtain ⟨v, q, _⟩ := hes i el hi'
      exact q
    · simp only [RepL, RepP]
      refine ⟨_, [], rfl, rfl, ?_, rfl⟩
      by_cases h0 : es.length = 0
      · exact .inl ⟨List.eq_nil_of_length_eq_zero h0, _, _, by rw [h0]⟩
      · right
        have cell : ∀ i j, i < es.length → j < P.cellsOf e → ∃ c, w.cell? ((a.add (i * P.cellsOf e)).add j) = some c := fun i j hi' hj => by
          obtain ⟨el, v, _, _, hs, hc⟩ := each i hi'
          have : j < v.cells.size := by omega
          exact ⟨_, (hc j _ (Array.getElem?_eq_getElem this)).2⟩
        obtain ⟨c0, hc0⟩ := cell 0 0 (by omega) hz
        simp only [Nat.zero_mul, Addr.add, if_true] at hc0
        have hsp := (frW_lt hc0).1
        obtain ⟨b, o, sp⟩ := a
        simp only at hsp
        subst hsp
        refine ⟨b, o, cap, rfl, hlc, ?_, RepE.mk fun i el hi' => ?_⟩
        · obtain ⟨c1, hc1⟩ := cell (es.length - 1) (P.cellsOf e - 1) (by omega) (by omega)
          rw [addr_add, addr_add] at hc1
          have := (frW_lt hc1).2
          simp only at this
          have e1 : es.length * P.cellsOf e = (es.length - 1) * P.cellsOf e + P.cellsOf e := by
            obtain ⟨k, hk⟩ : ∃ k, es.length = k + 1 := ⟨es.length - 1, by omega⟩
            rw [hk, Nat.add_mul]; simp
          omega
        · obtain ⟨v, _, r, hs, hc⟩ := hes i el hi'
          refine ⟨v, r, hs, fun j c hj => ?_⟩
          have := hc j c hj
          rw [addr_add, addr_add] at this
          exact this
theorem elW_agg {e : TypeId} {Q : List PV → Prop} (h : OpensW enc P w base spare held e Q) :
    ∀ (fuel : Nat) (cs : List Value) (x : DataW H × List MemPlace), DataW.trod enc P w base spare held fuel e cs = some x → fitsW (x.1.weights P e) = true → ∃ el v, (∃ xs, el = .agg xs ∧ Q xs) ∧ RepP (frW w) w el v ∧ v.cells.toList = cs ∧ ∀ c ∈ cs, c.oneCell' = true := by
  intro fuel cs x hx hw
  obtain ⟨xs, q, r⟩ := h _ _ _ hx hw
  exact ⟨.agg xs, .agg cs.toArray, ⟨xs, rfl, q⟩, by simp only [RepP]; exact ⟨_, rfl, r⟩, by simp [Value.cells], RepL.ones r⟩
end
section
variable {H : Type} {enc : TypeId × Value → H} {P : Program}
def ArgIsW (enc : TypeId × Value → H) (P : Program) (t : TypeId) (Q : PV → Prop) : Prop :=
  ∀ (W : World) (base : Nat) (v : Value) (d : DataW H) (p : List MemPlace), Value.okWide P W .any base t v → DataW.Trod enc P W 0 (fun _ => true) true t v d p → fitsW (d.weights P t) = true → ∃ x, Q x ∧ RepP (frW W) W x v
theorem argW_of {t : TypeId} {Q : PV → Prop} (h : ArgIs enc P t Q) : ArgIsW enc P t Q := fun W base v d p h1 h2 _ => h W base v d p h1 h2
theorem argW_one {t : TypeId} {Q : PV → Prop} (hf : (match P.underlying t with | some (.struct _) => false | some (.array _ _) => false | _ => true) = true) (h : ∀ W, OpensW enc P W 0 (fun _ => true) true t fun xs => ∃ x, xs = [x] ∧ Q x) : ArgIsW enc P t Q := by
  intro W base v d p ho ht hw
  obtain ⟨fuel, ht⟩ := ht
  obtain ⟨xs, ⟨x, rfl, q⟩, r⟩ := h W _ _ _ ht hw
  have h1 := okWide_flat ho hf
  rw [Value.cells_one h1] at r
  simp only [RepL] at r
  obtain ⟨v', vs', e, _, r, _⟩ := r
  injection e with e; subst e
  exact ⟨x, q, r⟩
def ArgsAreW (enc : TypeId × Value → H) (P : Program) : List TypeId → List (PV → Prop) → Prop
  | [], [] => True
  | t :: ts, Q :: Qs => ArgIsW enc P t Q ∧ ArgsAreW enc P ts Qs
  | _, _ => False
theorem args_openW {W : World} {base : Nat} {g : Gh} (hg : g.fr = frW W) : ∀ {ts : List TypeId} {Qs : List (PV → Prop)} {vs : List Value} {ds : List (DataW H)} {p : List MemPlace}, ArgsAreW enc P ts Qs →
    (∀ (j : Nat) t v, ts[j]? = some t → vs[j]? = some v → Value.okWide P W .any base t v) → DataW.TrodAll enc P W 0 (fun _ => true) true ts vs ds p → fitsW (DataW.weightsEach P ts ds) = true → ∃ xs, AllQ Qs xs ∧ RepAL g W (xs.map .p) vs
  | [], [], [], _, _, _, _, _, _ => ⟨[], trivial, by simp [RepAL]⟩
  | [], [], _ :: _, _, _, _, _, h, _ => h.elim
  | [], _ :: _, _, _, _, h, _, _, _ => h.elim
  | _ :: _, [], _, _, _, h, _, _, _ => h.elim
  | _ :: _, _ :: _, [], _, _, _, _, h, _ => by simp [DataW.TrodAll] at h
  | _ :: _, _ :: _, _ :: _, [], _, _, _, h, _ => by simp [DataW.TrodAll] at h
  | t :: ts, Q :: Qs, v :: vs, d :: ds, p, ha, ho, h, hw => by
    obtain ⟨p', q', h1, h2, rfl⟩ := h
    simp only [DataW.weightsEach, fitsW_app, Bool.and_eq_true] at hw
    obtain ⟨x, qx, rx⟩ := ha.1 W base v d p' (ho 0 t v rfl rfl) h1 hw.1
    obtain ⟨xs, qs, rs⟩ := args_openW hg ha.2 (fun j t' v' e1 e2 => ho (j + 1) t' v' e1 e2) h2 hw.2
    refine ⟨x :: xs, ⟨qx, qs⟩, ?_⟩
    simp only [List.map_cons, RepAL]
    exact ⟨v, vs, rfl, by simp only [RepA]; rw [hg]; exact rx, rs⟩
theorem contract_ofW [Gi] {C : Checked} {fn : Func} {n : FuncId} {s : ChangeSpec} {apart fresh handsOn again : Bool} {Qs : List (PV → Prop)} {tb : TypeId} (hl : laidOutB C.prog = true) (hv : s.vars = [])
    (hr : fn.params.toList.all (fun t => C.prog.readableRec t && decide (t < C.prog.types.size)) = true) (ht : fn.resultTypes = #[tb]) (hbo : C.prog.underlying tb = some .bool)
    (hs : ∀ ds : List (DataW H), ds.length = fn.params.size → s.fn H ds = { results := [.lit (.bool true)], args := ds })
    (hQ : ArgsAreW enc C.prog fn.params.toList Qs) (hC : ∀ xs, AllQ Qs xs → CR C.prog n [] (xs.map .p) [] Yes)
    (W : World) (base : Nat) (args : Array Value) (ds gs : List (DataW H)) (before : List MemPlace)
    (hval : ∀ (j : Nat) t v, fn.params[j]? = some t → args[j]? = some v → Value.okWide C.prog W .any base t v)
    (hW : DataW.Whole enc C.prog fn.params.toList s.vars apart W args.toList ds gs before) (hwt : fitsW (DataW.weightsEach C.prog fn.params.toList ds) = true) (hgl : GlOK ⟨frW W, fun _ => .prot⟩ W) :
    Calls C.prog n args W fun e W' => ∃ v, e = .returned v ∧ s.post enc C.prog fn apart fresh handsOn again W args v W' := by
  have hW0 := hW
  obtain ⟨p, q, hA, hV, _, _, _⟩ := hW
  have hgs : gs = [] := by
    rw [hv] at hV
    cases gs with
    | nil => rfl
    | cons _ _ => exact hV.elim
  obtain ⟨xs, qx, rx⟩ := args_openW (g := ⟨frW W, fun _ => .prot⟩) rfl hQ (fun j t v e1 e2 => hval j t v (by simpa using e1) (by simpa using e2)) hA hwt
  have hG : GS ⟨frW W, fun _ => .prot⟩ W [] := by
    refine ⟨fun b t h => ?_, fun b b' t h => ?_, fun b b' t h => ?_, fun b h => absurd rfl h, fun b hb => ?_, hgl⟩
    · cases h
    · cases h
    · cases h
    · show frW W b = 0
      have hb' : W.heap[b]? = none := by simpa using hb
      unfold frW
      rw [hb']
  have hc := hC xs qx W _ _ rx hG
  rw [Array.toArray_toList] at hc
  refine hc.mono ?_
  rintro e W' ⟨v, x, rs', g', rfl, ⟨rfl, rfl⟩, r, _, hAft⟩
  simp only [RepA, RepP] at r
  subst r
  have hB : Below W.heap.size W W' := ⟨hAft.out.1, hAft.out.2.1, hAft.out.2.2, hAft.mono, fun k hk => (hAft.frame k hk rfl).1⟩
  have hlen : ds.length = fn.params.size := by
    have : ∀ {ts : List TypeId} {vs : List Value} {ds : List (DataW H)} {p : List MemPlace}, DataW.TrodAll enc C.prog W 0 (fun _ => true) true ts vs ds p → ds.length = ts.length := by
      intro ts
      induction ts with
      | nil => intro vs ds p h; cases vs <;> cases ds <;> simp_all [DataW.TrodAll]
      | cons t ts ih =>
        intro vs ds p h
        cases vs <;> cases ds <;> simp_all [DataW.TrodAll]
        obtain ⟨_, _, _, h2, _⟩ := h
        exact ih h2
    simpa using this hA
  exact ⟨_, rfl, post_yes hl hB hW0 hv hgs hr ht hbo (by rw [hgs, List.append_nil, hs ds hlen]) (by rw [hgs, List.append_nil, hs ds hlen]) (by rw [hgs, List.append_nil, hs ds hlen])⟩
end
end Go.AM
