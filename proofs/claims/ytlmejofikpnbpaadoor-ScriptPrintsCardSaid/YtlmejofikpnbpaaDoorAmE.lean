/- A part of the proof of this seat's statements, by an abstract machine: what each operation does to values, proved over the model, whatever the program. No condition beyond those that stand. -/
import Derived.Test.YtlmejofikpnbpaaDoorAmD
namespace Go.AM

def PV.cells : PV → List PV
  | .agg cs => cs
  | x => [x]
/-- It stands in one cell of memory. -/
def PV.one : PV → Bool
  | .agg _ => false
  | .opq u => u.oneCell'
  | _ => true
def PV.fits : PV → Bool
  | .opq u => u.oneCell'
  | _ => true
theorem RepP.one {fr : Nat → Nat} {w : World} {x : PV} {v : Value} (h : x.one = true) (r : RepP fr w x v) : v.oneCell' = true := by
  cases x with
  | agg cs => cases h
  | opq u => simp only [RepP] at r; subst r; exact h
  | sl z es => simp only [RepP] at r; rcases r with ⟨_, _, _, rfl⟩ | ⟨b, o, cap, rfl, _⟩ <;> rfl
  | mp ks xs => simp only [RepP] at r; obtain ⟨b, arr, c, rfl, _⟩ := r; rfl
  | _ => simp only [RepP] at r; subst r; rfl
section
variable {fr : Nat → Nat} {w : World}
theorem RepL.length : ∀ {cs : List PV} {vs : List Value}, RepL fr w cs vs → vs.length = cs.length
  | [], vs, r => by simp only [RepL] at r; subst r; rfl
  | c :: cs, vs, r => by simp only [RepL] at r; obtain ⟨v, vs', rfl, _, _, r⟩ := r; simp [RepL.length r]
theorem RepL.get : ∀ {cs : List PV} {vs : List Value}, RepL fr w cs vs → ∀ {i : Nat} {x : PV}, cs[i]? = some x → ∃ v, vs[i]? = some v ∧ v.oneCell' = true ∧ RepP fr w x v
  | [], vs, r, i, x, h => by simp at h
  | c :: cs, vs, r, i, x, h => by
    simp only [RepL] at r
    obtain ⟨v, vs', rfl, h1, h2, r⟩ := r
    cases i with
    | zero => simp at h; subst h; exact ⟨v, by simp, h1, h2⟩
    | succ i => simpa using RepL.get r (i := i) (x := x) (by simpa using h)
theorem RepL.take : ∀ {cs : List PV} {vs : List Value} (n : Nat), RepL fr w cs vs → RepL fr w (cs.take n) (vs.take n)
  | [], vs, n, r => by simp only [RepL] at r; subst r; simp [RepL]
  | c :: cs, vs, 0, r => by simp [RepL]
  | c :: cs, vs, n + 1, r => by
    simp only [RepL] at r
    obtain ⟨v, vs', rfl, h1, h2, r⟩ := r
    simp only [List.take_succ_cons, RepL]
    exact ⟨v, _, rfl, h1, h2, r.take n⟩
theorem RepL.drop : ∀ {cs : List PV} {vs : List Value} (n : Nat), RepL fr w cs vs → RepL fr w (cs.drop n) (vs.drop n)
  | [], vs, n, r => by simp only [RepL] at r; subst r; simp [RepL]
  | c :: cs, vs, 0, r => by simpa using r
  | c :: cs, vs, n + 1, r => by
    simp only [RepL] at r
    obtain ⟨v, vs', rfl, h1, h2, r⟩ := r
    simpa using r.drop n
theorem RepL.append : ∀ {cs ds : List PV} {vs us : List Value}, RepL fr w cs vs → RepL fr w ds us → RepL fr w (cs ++ ds) (vs ++ us)
  | [], ds, vs, us, r, r' => by simp only [RepL] at r; subst r; simpa using r'
  | c :: cs, ds, vs, us, r, r' => by
    simp only [RepL] at r
    obtain ⟨v, vs', rfl, h1, h2, r⟩ := r
    simp only [List.cons_append, RepL]
    exact ⟨v, _, rfl, h1, h2, r.append r'⟩
theorem RepL.of_map : ∀ {cs : List PV} {vs : List Value}, vs.map toPV = cs → cs.all PV.one = true → RepL fr w cs vs
  | _, [], h, _ => by simp at h; subst h; simp [RepL]
  | _, v :: vs, h, h1 => by
    simp only [List.map_cons] at h
    subst h
    simp only [List.all_cons, Bool.and_eq_true] at h1
    simp only [RepL]
    exact ⟨v, vs, rfl, RepP.one h1.1 (RepP.toPV v : RepP fr w _ v), RepP.toPV v, RepL.of_map rfl h1.2⟩
theorem RepP.cells {x : PV} {v : Value} (h : x.fits = true) (r : RepP fr w x v) : RepL fr w x.cells v.cells.toList := by
  cases x with
  | agg cs => simp only [RepP] at r; obtain ⟨vs, rfl, r⟩ := r; exact r
  | opq u => 
    simp only [RepP] at r; subst r
    have hc : v.cells.toList = [v] := by cases v <;> first | rfl | cases h
    rw [hc]; simp only [PV.cells, RepL]; exact ⟨v, [], rfl, h, by simp only [RepP], rfl⟩
  | sl z es =>
    have h1 := RepP.one (x := .sl z es) rfl r
    have hc : v.cells.toList = [v] := by cases v <;> first | rfl | cases h1
    rw [hc]; simp only [PV.cells, RepL]; exact ⟨v, [], rfl, h1, r, rfl⟩
  | mp ks xs =>
    have h1 := RepP.one (x := .mp ks xs) rfl r
    have hc : v.cells.toList = [v] := by cases v <;> first | rfl | cases h1
    rw [hc]; simp only [PV.cells, RepL]; exact ⟨v, [], rfl, h1, r, rfl⟩
  | int k n => simp only [RepP] at r; subst r; simp only [PV.cells, RepL]; exact ⟨_, [], rfl, rfl, by simp only [RepP], rfl⟩
  | bool k => simp only [RepP] at r; subst r; simp only [PV.cells, RepL]; exact ⟨_, [], rfl, rfl, by simp only [RepP], rfl⟩
  | str k => simp only [RepP] at r; subst r; simp only [PV.cells, RepL]; exact ⟨_, [], rfl, rfl, by simp only [RepP], rfl⟩
/-- What part of a value of cells: an aggregate, or one cell. -/
def partA (agg : Bool) (size : Nat) (cs : List PV) (off : Nat) : PR :=
  if agg then (off + size ≤ cs.length, .p (.agg ((cs.drop off).take size)))
  else match cs[off]? with
    | some x => (True, .p x)
    | none => bad
theorem partA_sound {P : Program} {g : Gh} {t : TypeId} {T : Ty} (hT : ty P t = some T) {cs : List PV} {vs : Array Value} {off : Nat} (h : (partA (isAggD T.desc) T.size cs off).1)
    (r : RepL g.fr w cs vs.toList) : ∃ v, (part t vs off).run P w = .ok v w ∧ RepA g w (partA (isAggD T.desc) T.size cs off).2 v := by
  unfold partA at h ⊢
  have hl := RepL.length r
  unfold part
  rw [Sem.run_bind, ty_agg w hT]
  cases hA : isAggD T.desc with
  | true =>
    simp only [hA, if_true] at h ⊢
    refine ⟨.agg (vs.extract off (off + T.size)), ?_, ?_⟩
    · simp [ty_size w hT]
    · simp only [RepA, RepP]
      refine ⟨_, rfl, ?_⟩
      have : (vs.extract off (off + T.size)).toList = (vs.toList.drop off).take T.size := by
        simp
      rw [this]
      exact (r.drop off).take T.size
  | false =>
    simp only [hA] at h ⊢
    cases hx : cs[off]? with
    | none => simp only [hx] at h; exact h.elim
    | some x =>
      obtain ⟨v, hv, h1, hr⟩ := r.get hx
      refine ⟨v, ?_, by simp only; exact hr⟩
      have : vs[off]? = some v := by simpa using hv
      simp [this]
end

/-! ### Addresses -/
def fieldAddrA (P : Program) (T : TypeId) (x : AV) (f : Nat) : PR :=
  match ty P T with
  | some ⟨.struct fs, _, _, _⟩ =>
    match fs[f]? with
    | some fd =>
      match ty P fd.type with
      | some ft =>
        if ft.size = 0 then bad else
        match x with
        | .lp t o => (True, .lp t (o + fd.offset))
        | .ip z e o => (True, .ip z e (o + fd.offset))
        | _ => bad
      | none => bad
    | none => bad
  | _ => bad
theorem addr_add (b o n : Nat) : (⟨b, o, none⟩ : Addr).add n = ⟨b, o + n, none⟩ := by unfold Addr.add; split <;> simp_all
theorem fieldAddrA_sound {P : Program} {T : TypeId} {x : AV} {f : Nat} {g : Gh} {w : World} {v : Value} (h : (fieldAddrA P T x f).1) (r : RepA g w x v) :
    ∃ u, (Instr.fieldAt T v f).run P w = .ok u w ∧ RepA g w (fieldAddrA P T x f).2 u := by
  unfold fieldAddrA at h ⊢
  split at h
  · rename_i fs sz by_ ze hT
    have hu := ty_underlying w hT
    simp only [] at hu ⊢
    cases hf : fs[f]? with
    | none => simp only [hf] at h; exact h.elim
    | some fd =>
      simp only [hf] at h ⊢
      cases hft : ty P fd.type with
      | none => simp only [hft] at h; exact h.elim
      | some ft =>
        simp only [hft] at h ⊢
        split at h
        · exact h.elim
        · rename_i hz
          simp only [hz, if_false]
          have hs := ty_size w hft
          have step : ∀ b o, v = .pointer (some ⟨b, o, none⟩) → (Instr.fieldAt T v f).run P w = .ok (.pointer (some ⟨b, o + fd.offset, none⟩)) w := by
            intro b o e
            subst e
            unfold Instr.fieldAt
            rw [Sem.run_bind, hu]
            simp [hf, Instr.sureAddr, fieldPlace, hs, hz, addr_add]
          split at h
          · rename_i t o
            simp only [RepA] at r ⊢
            obtain ⟨b, hk, e⟩ := r
            exact ⟨_, step b o e, b, hk, rfl⟩
          · rename_i z e o
            simp only [RepA] at r ⊢
            obtain ⟨b, base, e', hf, he⟩ := r
            exact ⟨_, step b _ e', b, base, by rw [Nat.add_assoc], hf, he⟩
          · exact h.elim
  · exact h.elim

/-- An element. -/
def elemAt (es : List PV) (n : Nat) : PV := es.getD n default
def indexAddrA (P : Program) (T : TypeId) (x i : AV) : PR :=
  match ty P T, i with
  | some ⟨.slice e, _, _, _⟩, .p (.int _ n) =>
    match ty P e, x with
    | some et, .p (.sl z es) => (z = et.size ∧ 0 ≤ n ∧ n < es.length, .ip z (elemAt es n.toNat) 0)
    | some et, .os _ z es => (z = et.size ∧ 0 ≤ n ∧ n < es.length, .ip z (elemAt es n.toNat) 0)
    | some et, .la t z o m => (z = et.size ∧ 0 ≤ n ∧ n < m, .lp t (o + n.toNat * z))
    | _, _ => bad
  | some ⟨.array len e, _, _, _⟩, .p (.int _ n) =>
    match ty P e, x with
    | some et, .lp t o => (0 ≤ n ∧ n < len, .lp t (o + n.toNat * et.size))
    | some et, .ip z e o => (0 ≤ n ∧ n < len, .ip z e (o + n.toNat * et.size))
    | _, _ => bad
  | _, _ => bad
theorem indexAddrA_sound {P : Program} {T : TypeId} {x i : AV} {g : Gh} {w : World} {v iv : Value} (h : (indexAddrA P T x i).1) (r : RepA g w x v) (ri : RepA g w i iv) :
    ∃ u, (Instr.indexAt T v iv).run P w = .ok u w ∧ RepA g w (indexAddrA P T x i).2 u := by
  unfold indexAddrA at h ⊢
  split at h
  · rename_i e sz by_ ze k n hT
    have hu := ty_underlying w hT
    simp only [RepA, RepP] at ri hu ⊢
    subst ri
    cases het : ty P e with
    | none => simp only [het] at h; exact h.elim
    | some et =>
      simp only [het] at h ⊢
      have hs := ty_size w het
      have step : ∀ b o len cap, v = .slice (some ⟨b, o, none⟩) len cap → 0 ≤ n → n < (len : Int) →
          (Instr.indexAt T v (.int k n)).run P w = .ok (.pointer (some ⟨b, o + n.toNat * et.size, none⟩)) w := by
        intro b o len cap e' h0 h1
        subst e'
        simp [Instr.indexAt, asIntOf, hu, hs, h0, h1, addr_add]
      have slice : ∀ z es, z = et.size ∧ 0 ≤ n ∧ n < (es.length : Int) → RepP g.fr w (.sl z es) v →
          ∃ u, (Instr.indexAt T v (.int k n)).run P w = .ok u w ∧ RepA g w (.ip z (elemAt es n.toNat) 0) u := by
        rintro z es ⟨hz, h0, h1⟩ r
        subst hz
        simp only [RepP] at r
        rcases r with ⟨rfl, _⟩ | ⟨b, o, cap, e', hc, hf, he⟩
        · simp at h1; omega
        · refine ⟨_, step b o _ cap e' h0 h1, ?_⟩
          have hn : n.toNat < es.length := by omega
          have hg : es[n.toNat]? = some (elemAt es n.toNat) := by simp [elemAt, List.getElem?_eq_getElem hn]
          obtain ⟨u, hu1, hu2, hu3⟩ := RepE.get he hg
          simp only [RepA]
          refine ⟨b, o + n.toNat * et.size, rfl, ?_, ?_⟩
          · have : n.toNat * et.size + et.size ≤ es.length * et.size := by
              have := Nat.mul_le_mul_right et.size (show n.toNat + 1 ≤ es.length from hn)
              rw [Nat.add_mul] at this; omega
            omega
          · simp only [RepE, and_true]
            exact ⟨u, hu1, hu2, hu3⟩
      split at h
      · rename_i et' z es h' 
        simp only [Option.some.injEq] at h'; subst h'
        simp only [RepA] at r
        exact slice _ _ h r
      · rename_i et' t z es h'
        simp only [Option.some.injEq] at h'; subst h'
        simp only [RepA] at r
        exact slice _ _ h r.1
      · rename_i et' t z o m h'
        simp only [Option.some.injEq] at h'; subst h'
        simp only [RepA] at r ⊢
        obtain ⟨b, o', cap, hk, e', hc, ho, _⟩ := r
        obtain ⟨hz, h0, h1⟩ := h
        subst hz
        have ho' : o' = o := ho.resolve_left (by omega)
        subst ho'
        exact ⟨_, step b o' m cap e' h0 h1, b, hk, rfl⟩
      · exact h.elim
  · rename_i len e sz by_ ze k n hT
    have hu := ty_underlying w hT
    simp only [RepA, RepP] at ri hu ⊢
    subst ri
    cases het : ty P e with
    | none => simp only [het] at h; exact h.elim
    | some et =>
      simp only [het] at h ⊢
      have hs := ty_size w het
      have step : ∀ b o, v = .pointer (some ⟨b, o, none⟩) → 0 ≤ n → n < (len : Int) →
          (Instr.indexAt T v (.int k n)).run P w = .ok (.pointer (some ⟨b, o + n.toNat * et.size, none⟩)) w := by
        intro b o e' h0 h1
        subst e'
        simp [Instr.indexAt, asIntOf, hu, hs, h0, h1, addr_add, Instr.sureAddr]
      split at h
      · rename_i et' t o h'
        simp only [Option.some.injEq] at h'; subst h'
        simp only [RepA] at r ⊢
        obtain ⟨b, hk, e'⟩ := r
        exact ⟨_, step b o e' h.1 h.2, b, hk, rfl⟩
      · rename_i et' z e1 o h'
        simp only [Option.some.injEq] at h'; subst h'
        simp only [RepA] at r ⊢
        obtain ⟨b, base, e', hf, he⟩ := r
        exact ⟨_, step b _ e' h.1 h.2, b, base, by rw [Nat.add_assoc], hf, he⟩
      · exact h.elim
  · exact h.elim

end Go.AM
