/- A part of the proof of this seat's statements, by an abstract machine: what each operation does to values, proved over the model, whatever the program. No condition beyond those that stand. -/
import Derived.Test.YtlmejofikpnbpaaDoorAmEq
namespace Go.AM
/-! ### A map's key; a nil map looked into -/
section
variable {P : Program} {fr : Nat → Nat} {w : World}
theorem kinds_part {t : TypeId} {T : Ty} (hT : ty P t = some T) {a : List Kc} (hs : T.size = a.length) (h1' : (isAggD T.desc || a.length == 1) = true) {z : Array Value} {zs : List PV} {o : Nat} (hz : okC a (zs.take a.length) = true) (rz : RepL fr w zs (z.toList.drop o)) :
    ∃ p, (part t z o).run P w = .ok p w ∧ Stands P t p ((z.toList.drop o).take a.length) := by
  have hlz := okC_len hz
  unfold part
  rw [Sem.run_bind, ty_agg w hT]
  cases hA : isAggD T.desc with
  | true =>
    refine ⟨.agg (z.extract o (o + T.size)), by simp [ty_size w hT], ?_⟩
    intro T' hT'
    rw [hT] at hT'; injection hT' with hT'; subst hT'
    rw [if_pos hA, hs]
    congr 1
    apply Array.ext'
    simp
  | false =>
    have h1 : a.length = 1 := by simpa [hA] using h1'
    rw [h1] at hlz ⊢
    have hl1 : 0 < zs.length := by
      rw [List.length_take] at hlz
      omega
    obtain ⟨c, hc, _⟩ := rz.get (i := 0) (x := zs[0]) (List.getElem?_eq_getElem hl1)
    have hc' : z[o]? = some c := by simpa using hc
    refine ⟨c, by simp [hc'], ?_⟩
    intro T' hT'
    rw [hT] at hT'; injection hT' with hT'; subst hT'
    rw [if_neg (by simp [hA])]
    cases hd : z.toList.drop o with
    | nil => rw [hd] at hc; simp at hc
    | cons e es =>
      rw [hd] at hc
      simp at hc
      subst hc
      simp
theorem kinds_key (em : Bool) : ∀ (d m : Nat) (t : TypeId) (ks : List Kc) (xs : List PV) (a : Value) (cs : List Value), kindsIn P m t = some ks → okC ks xs = true → RepL fr w xs cs → Stands P t a cs → (Instr.checkKey em (d + m) t a).run P w = .ok () w
  | d, 0, t, ks, xs, a, cs, hk, _, _, _ => by simp [kindsIn] at hk
  | d, m + 1, t, ks, xs, a, cs, hk, hx, rx, sa => by
    unfold kindsIn at hk
    have plain : ∀ {T : TypeDesc}, P.underlying t = some T → (T = .bool ∨ (∃ k, T = .int k) ∨ T = .string) → (Instr.checkKey em (d + (m + 1)) t a).run P w = .ok () w := by
      intro T hu hT
      rw [show d + (m + 1) = (d + m) + 1 from rfl, Instr.checkKey]
      simp only [Sem.run_bind, run_underlying hu, Result.andThen_ok]
      rcases hT with rfl | ⟨k, rfl⟩ | rfl <;> rfl
    split at hk
    · rename_i hu; exact plain hu (.inl rfl)
    · rename_i k hu; exact plain hu (.inr (.inl ⟨k, rfl⟩))
    · rename_i hu; exact plain hu (.inr (.inr rfl))
    · rename_i fs hu
      split at hk
      · cases hk
      · obtain ⟨i, hi⟩ := info_of_underlying hu
        have ea := sa ⟨.struct fs, i.size, i.bytes, i.zero.map fun v => v.cells.toList.map toPV⟩ (by simp [ty, hi, hu])
        simp only [isAggD, if_true] at ea
        subst ea
        rw [show d + (m + 1) = (d + m) + 1 from rfl, Instr.checkKey]
        simp only [Sem.run_bind, run_underlying hu, Result.andThen_ok]
        rw [← Array.forIn_toList]
        have rx' : RepL fr w xs (cs.toArray.toList.drop 0) := by simpa using rx
        clear rx sa
        generalize (0 : Nat) = o at hk rx'
        generalize fs.toList = l at hk
        clear hu
        induction l generalizing o ks xs with
        | nil => simp
        | cons f l ih =>
          unfold kindsF at hk
          split at hk
          · rename_i b T ha hT
            split at hk
            · rename_i hc
              obtain ⟨hn, ho, hs, h1'⟩ := hc
              simp only [Option.map_eq_some_iff] at hk
              obtain ⟨b2, hb, rfl⟩ := hk
              obtain ⟨x1, x2⟩ := okC_app hx
              obtain ⟨p, hp, sp⟩ := kinds_part hT hs h1' x1 rx'
              have e1 := kinds_key em d m f.type b (xs.take b.length) p _ ha x1 (rx'.take _) sp
              simp only [List.forIn_cons, Sem.run_bind]
              rw [if_pos hn]
              rw [← ho] at hp
              simp only [Sem.run_bind, hp, Result.andThen_ok, e1, Sem.run_pure]
              exact ih b2 (xs.drop b.length) x2 (o + b.length) (by simpa [List.drop_drop] using rx'.drop b.length) hb
            · cases hk
          · cases hk
    · cases hk
end
/-- A zero of one cell. -/
def zeroP (P : Program) (t : TypeId) : Option PV := (P.info? t).bind fun i => i.zero.bind fun v => if v.oneCell' then some (toPV v) else none
theorem zeroP_run {P : Program} {t : TypeId} {z : PV} (h : zeroP P t = some z) (fr : Nat → Nat) (w : World) : ∃ v, (zeroValue t).run P w = .ok v w ∧ RepP fr w z v := by
  unfold zeroP at h
  simp only [Option.bind_eq_some_iff] at h
  obtain ⟨i, hi, v, hv, h⟩ := h
  split at h
  · injection h with h; subst h
    exact ⟨v, by simp [zeroValue, typeInfo, hi, hv], RepP.toPV v⟩
  · cases h
theorem kindsOf_spec {P : Program} {t : TypeId} {ks : List Kc} (h : kindsOf P t = some ks) : kindsIn P 8 t = some ks ∧ ∃ fs, P.underlying t = some (.struct fs) := by
  unfold kindsOf at h
  split at h
  · cases h
  · cases hu : P.underlying t with
    | none => rw [hu] at h; cases h
    | some T => rw [hu] at h; cases T <;> simp only [reduceCtorEq] at h; exact ⟨h, _, rfl⟩
theorem stands_agg {P : Program} {t : TypeId} {fs : Array Field} (hu : P.underlying t = some (.struct fs)) (z : Array Value) : Stands P t (.agg z) z.toList := by
  intro T hT
  obtain ⟨i, _, h2, _⟩ := ty_spec hT
  rw [h2] at hu
  injection hu with hu
  rw [hu]
  rfl
end Go.AM
