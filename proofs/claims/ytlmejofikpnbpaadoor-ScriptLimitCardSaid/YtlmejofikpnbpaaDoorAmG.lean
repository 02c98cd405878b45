/- A part of the proof of this seat's statements, by an abstract machine: what each operation does to values, proved over the model, whatever the program. No condition beyond those that stand. -/
import Derived.Test.YtlmejofikpnbpaaDoorAmF
import Derived.Laws.Build
namespace Go.AM

/-! ### Slices of slices and strings -/
def cut {α : Type} (l : List α) (a b : Int) : List α := (l.drop a.toNat).take (b.toNat - a.toNat)
def sliceV (P : Program) (T : TypeId) (x : AV) (lo hi mx : Option Int) : PR :=
  match ty P T, x with
  | some ⟨.string, _, _, _⟩, .p (.str s) =>
    match mx with
    | none => (0 ≤ lo.getD 0 ∧ lo.getD 0 ≤ hi.getD s.length ∧ hi.getD s.length ≤ s.length, .p (.str (cut s (lo.getD 0) (hi.getD s.length))))
    | some _ => bad
  | some ⟨.slice e, _, _, _⟩, .p (.sl z es) => sl e z es
  | some ⟨.slice e, _, _, _⟩, .os _ z es => sl e z es
  | some ⟨.slice e, _, _, _⟩, .la t z o n =>
    match ty P e, mx with
    | some et, none => (z = et.size ∧ 0 ≤ lo.getD 0 ∧ lo.getD 0 ≤ hi.getD n ∧ hi.getD n ≤ n, .la t z (o + (lo.getD 0).toNat * z) ((hi.getD n).toNat - (lo.getD 0).toNat))
    | _, _ => bad
  | _, _ => bad
where sl (e : TypeId) (z : Nat) (es : List PV) : PR :=
  match ty P e, mx with
  | some et, none => (z = et.size ∧ 0 ≤ lo.getD 0 ∧ lo.getD 0 ≤ hi.getD es.length ∧ hi.getD es.length ≤ es.length, .p (.sl z (cut es (lo.getD 0) (hi.getD es.length))))
  | some et, some m => (z = et.size ∧ 0 ≤ lo.getD 0 ∧ lo.getD 0 ≤ hi.getD es.length ∧ hi.getD es.length ≤ es.length ∧ m = hi.getD es.length ∧ hi.isSome = true,
      .os [] z (cut es (lo.getD 0) (hi.getD es.length)))
  | _, _ => bad

/-- A bound that is given has its number; one that is not is left out. -/
def BndOK (b : Option Int) (v : Option Value) : Prop :=
  match b, v with
  | none, none => True
  | some n, some u => ∃ k, u = .int k n
  | _, _ => False

theorem run_sliceBounds {P : Program} {w : World} (isS : Bool) (len cap : Nat) (lo hi mx : Option Int) (vl vh vm : Option Value) (hl : BndOK lo vl) (hh : BndOK hi vh) (hm : BndOK mx vm)
    (hmx : mx.isSome = true → hi.isSome = true) (h0 : 0 ≤ lo.getD 0) (h1 : lo.getD 0 ≤ hi.getD len) (h2 : hi.getD len ≤ mx.getD cap) (h3 : mx.getD cap ≤ cap) :
    (Instr.sliceBounds isS len cap vl vh vm).run P w = .ok ((lo.getD 0).toNat, (hi.getD len).toNat, (mx.getD cap).toNat) w := by
  have sb : ∀ (k : IntKind) (n : Int) (y : Nat) (c : BoundsCode), 0 ≤ n → n ≤ y → (Instr.sliceBound (.int k n) y c).run P w = .ok n.toNat w := by
    intro k n y c a b
    simp [Instr.sliceBound, asIntOf, a, b]
  cases mx with
  | none =>
    cases vm with
    | some u => exact hm.elim
    | none =>
      cases hi with
      | none =>
        cases vh with
        | some u => exact hh.elim
        | none =>
          cases lo with
          | none =>
            cases vl with
            | some u => exact hl.elim
            | none => simp [Instr.sliceBounds]
          | some l =>
            cases vl with
            | none => exact hl.elim
            | some u =>
              obtain ⟨k, rfl⟩ := hl
              simp only [Option.getD_some, Option.getD_none] at *
              simp [Instr.sliceBounds, sb k l len _ h0 h1]
      | some hh' =>
        cases vh with
        | none => exact hh.elim
        | some u =>
          obtain ⟨k, rfl⟩ := hh
          cases lo with
          | none =>
            cases vl with
            | some u => exact hl.elim
            | none =>
              simp only [Option.getD_some, Option.getD_none] at *
              have := sb k hh' cap (if isS = true then BoundsCode.sliceAcap else BoundsCode.sliceAlen) (by omega) (by omega)
              simp [Instr.sliceBounds, this]
          | some l =>
            cases vl with
            | none => exact hl.elim
            | some u =>
              obtain ⟨k', rfl⟩ := hl
              simp only [Option.getD_some, Option.getD_none] at *
              have e1 := sb k hh' cap (if isS = true then BoundsCode.sliceAcap else BoundsCode.sliceAlen) (by omega) (by omega)
              have e2 := sb k' l hh'.toNat .sliceB h0 (by omega)
              simp [Instr.sliceBounds, e1, e2]
  | some m =>
    cases vm with
    | none => exact hm.elim
    | some u =>
      obtain ⟨km, rfl⟩ := hm
      cases hi with
      | none => simp at hmx
      | some hh' =>
        cases vh with
        | none => exact hh.elim
        | some u =>
          obtain ⟨k, rfl⟩ := hh
          simp only [Option.getD_some] at *
          have e0 := sb km m cap (if isS = true then BoundsCode.slice3Acap else BoundsCode.slice3Alen) (by omega) (by omega)
          have e1 := sb k hh' m.toNat .slice3B (by omega) (by omega)
          cases lo with
          | none =>
            cases vl with
            | some u => exact hl.elim
            | none => simp [Instr.sliceBounds, e0, e1]
          | some l =>
            cases vl with
            | none => exact hl.elim
            | some u =>
              obtain ⟨k', rfl⟩ := hl
              simp only [Option.getD_some] at *
              have e2 := sb k' l hh'.toNat .slice3C h0 (by omega)
              simp [Instr.sliceBounds, e0, e1, e2]

theorem cut_length {α : Type} (l : List α) (a b : Int) (_ : 0 ≤ a) (h1 : a ≤ b) (h2 : b ≤ l.length) : (cut l a b).length = b.toNat - a.toNat := by
  simp [cut]; omega
theorem RepE.cut {fr : Nat → Nat} {w : World} {z b : Nat} {es : List PV} {o : Nat} (r : RepE fr w z b es o) (l h : Nat) (hl : l ≤ es.length) : RepE fr w z b ((es.drop l).take h) (o + l * z) := by
  have e1 : es = es.take l ++ es.drop l := (List.take_append_drop l es).symm
  rw [e1] at r
  have r1 := r.left.2
  have hlen : (es.take l).length = l := by simp; omega
  rw [hlen] at r1
  have e2 : es.drop l = (es.drop l).take h ++ (es.drop l).drop h := (List.take_append_drop h _).symm
  rw [e2] at r1
  exact r1.left.1

/-- The representation of a part of a slice. -/
theorem RepP.cut {fr : Nat → Nat} {w : World} {z : Nat} {es : List PV} {v : Value} (r : RepP fr w (.sl z es) v) {l h : Nat} (hl : l ≤ h) (hh : h ≤ es.length) {base : Option Addr} {len cap m : Nat}
    (hv : v = .slice base len cap) (hm : h ≤ m) (hmc : m ≤ cap) : RepP fr w (.sl z ((es.drop l).take (h - l))) (.slice (if m = l then base else base.map (·.add (l * z))) (h - l) (m - l)) := by
  have hlen : ((es.drop l).take (h - l)).length = h - l := by simp; omega
  simp only [RepP] at r ⊢
  rcases r with ⟨rfl, a0, cap0, rfl⟩ | ⟨b, o, cap', e, hc, hf, he⟩
  · injection hv with h1 h2 h3
    subst h1; subst h2; subst h3
    simp at hh; subst hh
    have : l = 0 := by omega
    subst this
    exact .inl ⟨by simp, _, _, rfl⟩
  · rw [e] at hv
    injection hv with h1 h2 h3
    subst h1; subst h2; subst h3
    right
    by_cases hml : m = l
    · have hz : h - l = 0 := by omega
      refine ⟨b, o, m - l, by rw [if_pos hml, hlen], by rw [hlen]; omega, ?_, ?_⟩
      · rw [hlen, hz]; omega
      · rw [hz]; simp [RepE]
    · refine ⟨b, o + l * z, m - l, by rw [if_neg hml, hlen]; simp [addr_add], by rw [hlen]; omega, ?_, ?_⟩
      · rw [hlen]
        have := Nat.mul_le_mul_right z (show l + (h - l) ≤ es.length by omega)
        rw [Nat.add_mul] at this
        omega
      · exact he.cut l (h - l) (by omega)

theorem slice_shape {fr : Nat → Nat} {w : World} {z : Nat} {es : List PV} {v : Value} (r : RepP fr w (.sl z es) v) : ∃ base cap, v = .slice base es.length cap ∧ es.length ≤ cap := by
  simp only [RepP] at r
  rcases r with ⟨rfl, a, cap, rfl⟩ | ⟨b, o, cap, e, hc, _⟩
  · exact ⟨a, cap, rfl, Nat.zero_le _⟩
  · exact ⟨_, cap, e, hc⟩
theorem ext_list (l : List UInt8) (a b : Nat) (_ : a ≤ b) (_ : b ≤ l.length) : (⟨l.toArray⟩ : ByteArray).extract a b = ⟨((l.drop a).take (b - a)).toArray⟩ := by
  apply ByteArray.ext
  simp only [ByteArray.data_extract]
  simp

theorem sliceV_sl_sound {P : Program} {e : TypeId} {T : TypeId} {sz by_ : Nat} {ze : Option (List PV)} (hT : ty P T = some ⟨.slice e, sz, by_, ze⟩) {z : Nat} {es : List PV} {lo hi mx : Option Int} {vl vh vm : Option Value}
    {g : Gh} {w : World} {v : Value} (h : (sliceV.sl P lo hi mx e z es).1) (r : RepP g.fr w (.sl z es) v)
    (hl : BndOK lo vl) (hh : BndOK hi vh) (hm : BndOK mx vm) :
    ∃ u, (Instr.sliceAt T v vl vh vm).run P w = .ok u w ∧ RepA g w (sliceV.sl P lo hi mx e z es).2 u := by
  have hu := ty_underlying w hT
  simp only [] at hu
  obtain ⟨base, cap, rfl, hcap⟩ := slice_shape r
  unfold sliceV.sl at h ⊢
  cases het : ty P e with
  | none => simp only [het] at h; exact h.elim
  | some et =>
    have hs := ty_size w het
    simp only [het] at h ⊢
    cases hmx : mx with
    | none =>
      subst hmx
      simp only [] at h ⊢
      obtain ⟨hz, h0, h1, h2⟩ := h
      subst hz
      have hb := run_sliceBounds (P := P) (w := w) true es.length cap lo hi none vl vh vm hl hh hm (by simp) h0 h1 (by simp; omega) (by simp)
      have hm0 : ((none : Option Int).getD (cap : Int)).toNat = cap := by simp
      rw [hm0] at hb
      refine ⟨.slice (if cap = (lo.getD 0).toNat then base else base.map (·.add ((lo.getD 0).toNat * et.size))) ((hi.getD es.length).toNat - (lo.getD 0).toNat) (cap - (lo.getD 0).toNat), ?_, ?_⟩
      · unfold Instr.sliceAt
        rw [Sem.run_bind, hu]
        simp only [Result.andThen_ok]
        unfold Instr.slice
        rw [Sem.run_bind, hu]
        simp only [Result.andThen_ok, Sem.run_bind, hb, hs, Sem.run_pure]
      · simp only [RepA]
        exact r.cut (by omega) (by omega) rfl (by omega) (by omega)
    | some m =>
      subst hmx
      simp only [] at h ⊢
      obtain ⟨hz, h0, h1, h2, h3, h4⟩ := h
      subst hz
      have hb := run_sliceBounds (P := P) (w := w) true es.length cap lo hi (some m) vl vh vm hl hh hm (by simp [h4]) h0 h1 (by simp; omega) (by simp; omega)
      have hm0 : ((some m : Option Int).getD (cap : Int)).toNat = (hi.getD es.length).toNat := by simp; omega
      rw [hm0] at hb
      refine ⟨.slice (if (hi.getD es.length).toNat = (lo.getD 0).toNat then base else base.map (·.add ((lo.getD 0).toNat * et.size))) ((hi.getD es.length).toNat - (lo.getD 0).toNat) ((hi.getD es.length).toNat - (lo.getD 0).toNat), ?_, ?_⟩
      · unfold Instr.sliceAt
        rw [Sem.run_bind, hu]
        simp only [Result.andThen_ok]
        unfold Instr.slice
        rw [Sem.run_bind, hu]
        simp only [Result.andThen_ok, Sem.run_bind, hb, hs, Sem.run_pure]
      · simp only [RepA]
        exact ⟨r.cut (by omega) (by omega) rfl (by omega) (by omega), .inl ⟨_, _, rfl⟩⟩

theorem sliceV_sound {P : Program} {T : TypeId} {x : AV} {lo hi mx : Option Int} {vl vh vm : Option Value} {g : Gh} {w : World} {v : Value} (h : (sliceV P T x lo hi mx).1) (r : RepA g w x v)
    (hl : BndOK lo vl) (hh : BndOK hi vh) (hm : BndOK mx vm) :
    ∃ u, (Instr.sliceAt T v vl vh vm).run P w = .ok u w ∧ RepA g w (sliceV P T x lo hi mx).2 u := by
  unfold sliceV at h ⊢
  split at h
  · rename_i sz by_ ze s hT
    have hu := ty_underlying w hT
    simp only [] at hu
    cases hmx : mx with
    | some m => subst hmx; exact h.elim
    | none =>
      subst hmx
      simp only [RepA, RepP] at h r ⊢
      subst r
      obtain ⟨h0, h1, h2⟩ := h
      have hsz : (⟨s.toArray⟩ : ByteArray).size = s.length := by simp [ByteArray.size]
      have hvm : vm = none := by cases vm with | none => rfl | some u => exact hm.elim
      subst hvm
      have hb := run_sliceBounds (P := P) (w := w) false s.length s.length lo hi none vl vh none hl hh trivial (by simp) h0 h1 (by simpa using h2) (by simp)
      refine ⟨_, ?_, rfl⟩
      unfold Instr.sliceAt
      rw [Sem.run_bind, hu]
      simp only [Result.andThen_ok]
      unfold Instr.slice
      rw [Sem.run_bind, hu]
      simp only [Result.andThen_ok, Sem.run_bind, hsz, hb, Option.isSome_none, Bool.false_eq_true, if_false, Sem.run_pure]
      rw [ext_list _ _ _ (by omega) (by omega)]
      rfl
  · rename_i e sz by_ ze z es hT
    simp only [RepA] at r
    exact sliceV_sl_sound hT h r hl hh hm
  · rename_i e sz by_ ze t z es hT
    simp only [RepA] at r
    exact sliceV_sl_sound hT h r.1 hl hh hm
  · rename_i e sz by_ ze t z o n hT
    have hu := ty_underlying w hT
    simp only [] at hu
    cases het : ty P e with
    | none => simp only [het] at h; exact h.elim
    | some et =>
      have hs := ty_size w het
      cases hmx : mx with
      | some m => subst hmx; simp only [het] at h; exact h.elim
      | none =>
        subst hmx
        simp only [het] at h ⊢
        simp only [RepA] at r ⊢
        obtain ⟨b, o', cap, hk, rfl, hcap, ho, hB⟩ := r
        obtain ⟨hz, h0, h1, h2⟩ := h
        subst hz
        have hb := run_sliceBounds (P := P) (w := w) true n cap lo hi none vl vh vm hl hh hm (by simp) h0 h1 (by simp; omega) (by simp)
        have hm0 : ((none : Option Int).getD (cap : Int)).toNat = cap := by simp
        rw [hm0] at hb
        refine ⟨_, ?_, b, (if cap = (lo.getD 0).toNat then o' else o' + (lo.getD 0).toNat * et.size), cap - (lo.getD 0).toNat, hk, rfl, by omega, ?_, ?_⟩
        · unfold Instr.sliceAt
          rw [Sem.run_bind, hu]
          simp only [Result.andThen_ok]
          unfold Instr.slice
          rw [Sem.run_bind, hu]
          simp only [Result.andThen_ok, Sem.run_bind, hb, hs, Sem.run_pure]
          congr 2
          by_cases e : cap = (lo.getD 0).toNat <;> simp [e, addr_add]
        · by_cases e : cap = (lo.getD 0).toNat
          · left; omega
          · rw [if_neg e]
            rcases ho with ho | ho
            · left; omega
            · right; rw [ho]
        · by_cases e : cap = (lo.getD 0).toNat
          · rw [if_pos e, e, Nat.sub_self, Nat.zero_mul]
            exact hB.le (by omega)
          · rw [if_neg e, Nat.add_assoc, ← Nat.add_mul]
            have : (lo.getD 0).toNat + (cap - (lo.getD 0).toNat) = cap := by omega
            rw [this]
            exact hB
  · exact h.elim

end Go.AM
