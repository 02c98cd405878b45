/- ScriptLimit, as a contract of the abstract machine. Conditions: as the law says. -/
import Derived.Test.YtlmejofikpnbpaaDoorO1
namespace Go.Proofs.YtlmejofikpnbpaaDoor
open Go.AM
set_option maxHeartbeats 1600000
set_option maxRecDepth 10000
theorem cut_map (l : List Ev) (a b : Int) : cut (l.map evP) a b = (cut l a b).map evP := by simp [cut]
theorem prints_cr [Evs] (l : List Ev) (ho : ∀ x ∈ l, x.ok) : CR Tryd.prog 5 [] [.p (evsP l)] [] (is (.p (.bool true))) := by
  refine CR_of_wp mixed 7 [] Tryd.func5 rfl (by kernel_rfl) rfl (by simp) (by simp) ?_
  simp (maxSteps := 1000000) [go_sem, Tryd.f5, evsP]
  refine condK_join (ι := { u : List Ev // ∀ x ∈ u, x.ok } × List (Nat × AV)) (fun i => { n := 33, nv := 7, vs := [(0, .p (evsP i.1.1)), (2, .p (.bool false))], ts := i.2, rs := [] }) (condK_if (fun h => ?_) (fun h => ?_)) ?_
  · simp (maxSteps := 1000000) [go_sem]
    refine ⟨by omega, JoinK_in ⟨⟨cut l 0 500, fun x hx => ho x (by simp [cut] at hx; exact List.mem_of_mem_take hx)⟩, _⟩ (by rw [cut_map]; rfl)⟩
  · simp (maxSteps := 1000000) [go_sem]
    exact JoinK_in ⟨⟨l, ho⟩, _⟩ rfl
  rintro ⟨⟨u, hu⟩, ts⟩
  have k1 := print_cr u hu
  have k2 := rprint_cr u hu
  have k4 := awake_cr
  generalize printL u = r at *
  obtain ⟨s, e⟩ := r
  simp (maxSteps := 1000000) [go_sem, evsP]
  refine ⟨⟨rfl, by simp [Tryd.f13]⟩, CallK_of [] k1 (by simp [go_sem]) ⟨by simp [go_sem], by simp [go_sem, evsP]⟩ (by simp [go_sem]) ?_⟩
  rintro y rs ⟨rfl, rfl⟩
  simp (maxSteps := 1000000) [go_sem]
  refine ⟨⟨rfl, by simp [Tryd.f14]⟩, CallK_of [] k2 (by simp [go_sem]) ⟨by simp [go_sem], by simp [go_sem, evsP]⟩ (by simp [go_sem]) ?_⟩
  rintro y rs ⟨rfl, rfl⟩
  simp (maxSteps := 1000000) [go_sem]
  refine ⟨⟨rfl, by simp [Tryd.f11]⟩, CallK_of [] k4 (by simp [go_sem]) ⟨by simp [go_sem], by simp [go_sem]⟩ (by simp [go_sem]) ?_⟩
  rintro y rs ⟨rfl, rfl⟩
  simp (maxSteps := 1000000) [go_sem]
  exact ret_is (.p (.bool true)) rfl (by simp [go_sem, resOf, leA]) ⟨rfl, rfl⟩
/-! ### What is parsed can be printed -/
theorem hexL_ok : ∀ (s : List UInt8) (l : List Ev), hexL s = some l → ∀ x ∈ l, x.k = 1 ∧ x.okb ∧ x.r = 0 ∧ x.c = 0
  | [], l, h => by simp [hexL] at h; subst h; simp
  | [_], l, h => by simp [hexL] at h
  | a :: b :: r, l, h => by
    unfold hexL at h
    split at h
    · cases h
    · rename_i hn
      obtain ⟨m, hm, rfl⟩ := Option.map_eq_some_iff.1 h
      have ih := hexL_ok r m hm
      have g1 := digV_ge a
      have g2 := digV_ge b
      intro x hx
      rcases List.mem_cons.1 hx with rfl | hx
      · refine ⟨rfl, ⟨?_, ?_⟩, rfl, rfl⟩ <;> simp only <;> omega
      · exact ih x hx
/-- An event that is bare, and can be printed. -/
def Ev.neat (x : Ev) : Prop := bare x = x ∧ x.okb ∧ (x.k = 1 ∨ x.k = 2 ∨ x.k = 3) ∧ okSize x
theorem numL_lt : ∀ (s : List UInt8) (n : Int), 0 ≤ n → numL s n < (n + 1) * 10 ^ s.length
  | [], n, h => by simp [numL]; omega
  | c :: r, n, h => by
    unfold numL
    split
    · rename_i hc
      have := numL_lt r (10 * n + ((c.toNat : Int) - 48)) (by omega)
      have hp : (0 : Int) < 10 ^ r.length := Int.pow_pos (by omega)
      have e : (10 : Int) ^ (c :: r).length = 10 * 10 ^ r.length := by rw [List.length_cons, Int.pow_succ]; omega
      rw [e]
      have h2 : (10 * n + ((c.toNat : Int) - 48) + 1) * 10 ^ r.length ≤ (n + 1) * (10 * 10 ^ r.length) := by
        rw [← Int.mul_assoc]
        exact Int.mul_le_mul_of_nonneg_right (by omega) (by omega)
      omega
    · have hp : (0 : Int) < 10 ^ (c :: r).length := Int.pow_pos (by omega)
      have : (0 : Int) ≤ (n + 1) * 10 ^ (c :: r).length := Int.mul_nonneg (by omega) (by omega)
      omega
theorem numV_le (s : List UInt8) : numV s ≤ 9999 := by
  unfold numV
  split
  · omega
  · rename_i h
    have h1 := numL_lt s 0 (by omega)
    have h2 : (10 : Int) ^ s.length ≤ 10 ^ 4 := by
      have : s.length = 1 ∨ s.length = 2 ∨ s.length = 3 ∨ s.length = 4 := by omega
      rcases this with e | e | e | e <;> rw [e] <;> decide
    omega
theorem lineV_neat (s : List UInt8) (l : List Ev) (h : lineV s = some l) : (∀ x ∈ l, x.neat) ∧ l.length ≤ s.length := by
  have hx : ∀ (s : List UInt8) (l : List Ev), hexL s = some l → 2 * l.length = s.length := hexL_len
  unfold lineV at h
  split at h
  · injection h with h; subst h; simp
  · split at h
    · rename_i _ e
      injection h with h; subst h
      refine ⟨fun x hx => ?_, by rw [e]; decide⟩
      simp at hx; subst hx
      exact ⟨rfl, ⟨by decide, by decide⟩, by decide, by decide⟩
    · split at h
      · rename_i hb
        split at h
        · cases h
        · split at h
          · rename_i hn
            injection h with h; subst h
            refine ⟨fun x hx => ?_, ?_⟩
            · simp at hx; subst hx
              exact ⟨rfl, ⟨by simp, by simp⟩, by simp, hn.1, numV_le _, hn.2, numV_le _⟩
            · obtain ⟨r, rfl⟩ := (beg_size _).1 hb
              simp [sizeL]
          · cases h
      · split at h
        · cases h
        · have hl := hx _ _ h
          refine ⟨fun x hx => ?_, by simp at hl; omega⟩
          obtain ⟨a, b, c, d⟩ := hexL_ok _ _ h x hx
          refine ⟨?_, b, .inl a, ?_⟩
          · obtain ⟨k, bb, rr, cc⟩ := x
            simp only at a c d
            subst a c d
            rfl
          · rw [okSize, c, d]; decide
theorem goV_neat : ∀ (ls : List (List UInt8)) (n : Nat) (out : List Ev), (∀ x ∈ out, x.neat) → (∀ x ∈ (goV ls n out).1, x.neat) ∧ (goV ls n out).1.length ≤ out.length + (ls.map List.length).sum
  | [], _, out, h => ⟨h, by simp [goV]⟩
  | l :: ls, n, out, h => by
    unfold goV
    cases hl : lineV l with
    | none => simp
    | some x =>
      have hx := lineV_neat l x hl
      simp only
      split
      · simp
      · have ih := goV_neat ls (n + 1) (out ++ x) (fun y hy => by
          rcases List.mem_append.1 hy with hy | hy
          · exact h y hy
          · exact hx.1 y hy)
        refine ⟨ih.1, ?_⟩
        have := ih.2
        simp only [List.length_append, List.map_cons, List.sum_cons] at this ⊢
        omega
theorem linesG_sum : ∀ (s cur : List UInt8), ((linesG cur s).map List.length).sum ≤ cur.length + s.length
  | [], cur => by unfold linesG; split <;> simp
  | b :: r, cur => by
    unfold linesG
    split
    · have := linesG_sum r []; simp at this ⊢; omega
    · have := linesG_sum r (cur ++ [b]); simp at this ⊢; omega
theorem parseV_neat (s : List UInt8) : (∀ x ∈ (parseV s).1, x.neat) ∧ (parseV s).1.length ≤ s.length := by
  unfold parseV
  split
  · simp
  · have h1 := goV_neat (linesG [] s) 0 [] (by simp)
    have h2 := linesG_sum s []
    simp at h1 h2
    exact ⟨h1.1, by omega⟩
theorem putAll_neat : ∀ (l : List Ev) (st : List UInt8 × Nat), (∀ x ∈ l, x.k = 1 ∨ x.k = 2 ∨ (x.k = 3 ∧ okSize x)) → (putAll l st).isSome = true
  | [], _, _ => rfl
  | x :: l, st, h => by
    rw [putAll]
    have h1 := putP_some (st := st) (h x (by simp))
    cases hp : putS x st with
    | none => rw [hp] at h1; cases h1
    | some st1 => exact putAll_neat l st1 (fun y hy => h y (List.mem_cons_of_mem _ hy))
theorem print_neat {l : List Ev} (hl : l.length ≤ 65536) (h : ∀ x ∈ l, x.k = 1 ∨ x.k = 2 ∨ (x.k = 3 ∧ okSize x)) : (printL l).2 = 0 := by
  have := putAll_neat l ([], 0) h
  unfold printL
  rw [if_neg (by omega)]
  cases hp : putAll l ([], 0) with
  | none => rw [hp] at this; cases this
  | some st => rfl
theorem again {l : List Ev} (h : ∀ x ∈ l, x.neat) (hl : l.length ≤ 10000) : (printL l).2 = 0 ∧ parseV (printL l).1 = (l, 0, 0) := by
  have h0 := print_neat (l := l) (by omega) (fun x hx => by
    obtain ⟨_, _, h3, h4⟩ := h x hx
    rcases h3 with h3 | h3 | h3
    · exact .inl h3
    · exact .inr (.inl h3)
    · exact .inr (.inr ⟨h3, h4⟩))
  have hlen := print_len l
  refine ⟨h0, ?_⟩
  rw [back (fun x hx => (h x hx).2.1) h0 (by omega)]
  have : l.map bare = l := by
    conv => rhs; rw [← List.map_id l]
    exact List.map_congr_left fun x hx => (h x hx).1
  rw [this]
end Go.Proofs.YtlmejofikpnbpaaDoor
namespace Go.Proofs.YtlmejofikpnbpaaDoor
open Go.AM
set_option maxHeartbeats 1600000
set_option maxRecDepth 10000
theorem sback_cr [Evs] (l : List Ev) (t : List UInt8) (ho : ∀ x ∈ l, x.ok) : CR Tryd.prog 6 [] [.p (evsP l), .p (.str t)] [] (is (.p (.bool true))) := by
  refine CR_of_wp mixed 16 [] Tryd.func6 rfl (by kernel_rfl) rfl (by simp) (by simp) ?_
  simp (maxSteps := 1000000) [go_sem, Tryd.f6, evsP]
  refine condK_join (ι := { u : List Ev // (∀ x ∈ u, x.ok) ∧ u.length ≤ 500 } × List (Nat × AV)) (fun i => { n := 82, nv := 16, vs := [(0, .p (evsP i.1.1)), (1, .p (.str t)), (4, .p (.bool false))], ts := i.2, rs := [] }) (condK_if (fun h => ?_) (fun h => ?_)) ?_
  · simp (maxSteps := 1000000) [go_sem]
    refine ⟨by omega, JoinK_in ⟨⟨cut l 0 500, fun x hx => ho x (by simp [cut] at hx; exact List.mem_of_mem_take hx), by simp [cut]; omega⟩, _⟩ (by rw [cut_map]; rfl)⟩
  · simp (maxSteps := 1000000) [go_sem]
    exact JoinK_in ⟨⟨l, ho, by omega⟩, _⟩ rfl
  rintro ⟨⟨u, hu, hul⟩, ts⟩
  simp (maxSteps := 1000000) [go_sem, evsP]
  refine condK_join (ι := { s : List UInt8 // s.length ≤ 3000 } × List (Nat × AV)) (fun i => { n := 82, nv := 16, vs := [(0, .p (evsP u)), (1, .p (.str i.1.1)), (4, .p (.bool false))], ts := i.2, rs := [] }) (condK_if (fun h => ?_) (fun h => ?_)) ?_
  · simp (maxSteps := 1000000) [go_sem]
    refine ⟨by omega, JoinK_in ⟨⟨cut t 0 3000, by simp [cut]; omega⟩, _⟩ rfl⟩
  · simp (maxSteps := 1000000) [go_sem]
    exact JoinK_in ⟨⟨t, by omega⟩, _⟩ rfl
  rintro ⟨⟨s, hs⟩, ts⟩
  have kp := print_cr u hu
  have kb := bare_cr u (by omega)
  have kback := back (fun x hx => (hu x hx).1) (l := u)
  have hlen := print_len u
  have ka := awake_cr
  have ks := same_cr (u.map bare) (u.map bare) (by simp; omega)
  have kq := parse_cr (printL u).1
  rw [parse_eq] at kq
  simp only [decide_true] at ks
  -- the second half
  have k1 := parse_cr s
  rw [parse_eq] at k1
  have hneat := parseV_neat s
  simp (maxSteps := 1000000) [go_sem, evsP]
  refine ⟨⟨rfl, by simp [Tryd.f13]⟩, CallK_of [] kp (by simp [go_sem]) ⟨by simp [go_sem], by simp [go_sem, evsP]⟩ (by simp [go_sem]) ?_⟩
  rintro y rs ⟨rfl, rfl⟩
  simp (maxSteps := 1000000) [go_sem]
  refine condK_if (fun h => ?_) (fun h => ?_)
  have h' : (printL u).2 = 0 := by omega
  rw [kback h' (by omega)] at kq
  simp (maxSteps := 1000000) [go_sem]
  refine ⟨⟨rfl, by simp [Tryd.f8]⟩, CallK_of [] kq (by simp [go_sem]) ⟨by simp [go_sem], by simp [go_sem]⟩ (by simp [go_sem]) ?_⟩
  rintro y rs ⟨rfl, rfl⟩
  simp (maxSteps := 1000000) [go_sem]
  refine ⟨⟨rfl, by simp [Tryd.f15]⟩, CallK_of [] kb (by simp [go_sem]) ⟨by simp [go_sem], by simp [go_sem, evsP]⟩ (by simp [go_sem]) ?_⟩
  rintro y rs ⟨rfl, rfl⟩
  simp (maxSteps := 1000000) [go_sem]
  refine ⟨⟨rfl, by simp [Tryd.f10]⟩, CallK_of [] ks (by simp [go_sem]) ⟨by simp [go_sem], by simp [go_sem, evsP]⟩ (by simp [go_sem]) ?_⟩
  rintro y rs ⟨rfl, rfl⟩
  simp (maxSteps := 1000000) [go_sem]
  rotate_left
  simp (maxSteps := 1000000) [go_sem]
  all_goals (
    refine ⟨⟨rfl, by simp [Tryd.f8]⟩, CallK_of [] k1 (by simp [go_sem]) ⟨by simp [go_sem], by simp [go_sem]⟩ (by simp [go_sem]) ?_⟩
    rintro y rs ⟨rfl, rfl⟩
    simp (maxSteps := 1000000) [go_sem]
    refine condK_ifn (fun h2 => ?_) (fun h2 => ?_)
    · simp (maxSteps := 1000000) [go_sem]
      refine ⟨⟨rfl, by simp [Tryd.f11]⟩, CallK_of [] ka (by simp [go_sem]) ⟨by simp [go_sem], by simp [go_sem]⟩ (by simp [go_sem]) ?_⟩
      rintro y rs ⟨rfl, rfl⟩
      simp (maxSteps := 1000000) [go_sem]
      exact ret_is (.p (.bool true)) rfl (by simp [go_sem, resOf, leA]) ⟨rfl, rfl⟩
    · have hok : ∀ x ∈ (parseV s).1, x.ok := fun x hx => by
        obtain ⟨e0, e1, e2, e3⟩ := hneat.1 x hx
        unfold okSize at e3
        refine ⟨e1, ?_, ?_, ?_⟩ <;> omega
      have k2 := print_cr (parseV s).1 hok
      have hag := again hneat.1 (by omega)
      have k3 := parse_cr (printL (parseV s).1).1
      rw [parse_eq, hag.2] at k3
      rw [hag.1] at k2
      have k4 := same_cr (parseV s).1 (parseV s).1 (by omega)
      simp only [decide_true] at k4
      generalize parseV s = r at *
      generalize (printL r.1).1 = q at *
      simp (maxSteps := 1000000) [go_sem]
      refine ⟨⟨rfl, by simp [Tryd.f13]⟩, CallK_of [] k2 (by simp [go_sem]) ⟨by simp [go_sem], by simp [go_sem, evsP]⟩ (by simp [go_sem]) ?_⟩
      rintro y rs ⟨rfl, rfl⟩
      simp (maxSteps := 1000000) [go_sem]
      refine ⟨⟨rfl, by simp [Tryd.f8]⟩, CallK_of [] k3 (by simp [go_sem]) ⟨by simp [go_sem], by simp [go_sem]⟩ (by simp [go_sem]) ?_⟩
      rintro y rs ⟨rfl, rfl⟩
      simp (maxSteps := 1000000) [go_sem]
      refine ⟨⟨rfl, by simp [Tryd.f10]⟩, CallK_of [] k4 (by simp [go_sem]) ⟨by simp [go_sem], by simp [go_sem, evsP]⟩ (by simp [go_sem]) ?_⟩
      rintro y rs ⟨rfl, rfl⟩
      simp (maxSteps := 1000000) [go_sem]
      refine ⟨⟨rfl, by simp [Tryd.f11]⟩, CallK_of [] ka (by simp [go_sem]) ⟨by simp [go_sem], by simp [go_sem]⟩ (by simp [go_sem]) ?_⟩
      rintro y rs ⟨rfl, rfl⟩
      simp (maxSteps := 1000000) [go_sem]
      exact ret_is (.p (.bool true)) rfl (by simp [go_sem, resOf, leA]) ⟨rfl, rfl⟩)
end Go.Proofs.YtlmejofikpnbpaaDoor
namespace Go.Proofs.YtlmejofikpnbpaaDoor
open Go.AM
set_option maxHeartbeats 1600000
set_option maxRecDepth 10000
/-! ### The law's text -/
def zs (n : Nat) : List UInt8 := List.replicate n 48
def ev0 : Ev := ⟨1, 0, 0, 0⟩
def oneL : List UInt8 × List Ev := (bytesW ++ zs 64, List.replicate 32 ev0)
def tickP : List UInt8 × List Ev := ([116, 105, 99, 107], [⟨2, 0, 0, 0⟩])
theorem oneL_eq : oneL = (bytesW ++ hexAll (List.replicate 32 ev0), List.replicate 32 ev0) := by decide
theorem good_one : Good oneL := by
  rw [oneL_eq]
  exact good_bytes _ (fun x hx => by rw [List.eq_of_mem_replicate hx]; exact ⟨rfl, ⟨by decide, by decide⟩, rfl, rfl⟩) (by decide) (by decide)
def many (n : Nat) : List (List UInt8 × List Ev) := List.replicate n oneL
theorem textOf_app (a b : List (List UInt8 × List Ev)) : textOf (a ++ b) = textOf a ++ textOf b := by simp [textOf]
theorem textOf_many_len (n : Nat) : (textOf (many n)).length = 71 * n := by
  induction n with
  | zero => rfl
  | succ n ih =>
    have : many (n + 1) = oneL :: many n := rfl
    rw [this]
    have e : textOf (oneL :: many n) = (oneL.1 ++ [10]) ++ textOf (many n) := by simp [textOf]
    rw [e, List.length_append, ih]
    have : (oneL.1 ++ [10]).length = 71 := by decide
    omega
theorem go_many : ∀ (m n : Nat) (out : List Ev) (rest : List (List UInt8)), out.length + 32 * m ≤ 65536 → goV (((many m).map (·.1)) ++ rest) n out = goV rest (n + m) (out ++ evsOf (many m))
  | 0, n, out, rest, _ => by simp [many, evsOf]
  | m + 1, n, out, rest, h => by
    have e : many (m + 1) = oneL :: many m := rfl
    have hl : oneL.2.length = 32 := by decide
    have ee : evsOf (oneL :: many m) = oneL.2 ++ evsOf (many m) := rfl
    rw [e, List.map_cons, List.cons_append, goV, good_one.line]
    simp only
    rw [if_neg (by omega), go_many m (n + 1) _ rest (by rw [List.length_append]; omega), ee, List.append_assoc]
    congr 1
    omega
theorem evs_many (m : Nat) : (evsOf (many m)).length = 32 * m ∧ ∀ x ∈ evsOf (many m), x = ev0 := by
  induction m with
  | zero => simp [many, evsOf]
  | succ m ih =>
    have e : evsOf (many (m + 1)) = oneL.2 ++ evsOf (many m) := rfl
    have hl : oneL.2.length = 32 := by decide
    rw [e]
    refine ⟨by rw [List.length_append, ih.1]; omega, fun x hx => ?_⟩
    rcases List.mem_append.1 hx with hx | hx
    · exact List.eq_of_mem_replicate hx
    · exact ih.2 x hx
def limT (n : Nat) : List UInt8 := textOf (many 2048 ++ List.replicate n tickP)
theorem limT_len (n : Nat) : (limT n).length = 145408 + 5 * n := by
  unfold limT
  rw [textOf_app, List.length_append, textOf_many_len]
  have : (textOf (List.replicate n tickP)).length = 5 * n := by
    induction n with
    | zero => rfl
    | succ n ih =>
      have e : textOf (List.replicate (n + 1) tickP) = (tickP.1 ++ [10]) ++ textOf (List.replicate n tickP) := by simp [textOf, List.replicate_succ]
      rw [e, List.length_append, ih]
      have : (tickP.1 ++ [10]).length = 5 := by decide
      omega
  omega
theorem lim_lines (n : Nat) : linesG [] (limT n) = ((many 2048).map (·.1)) ++ (List.replicate n tickP).map (·.1) := by
  unfold limT
  rw [lines_of, List.map_append]
  intro p hp
  rcases List.mem_append.1 hp with hp | hp
  · rw [List.eq_of_mem_replicate hp]; exact good_one
  · rw [List.eq_of_mem_replicate hp]; exact good_tick
theorem goV_nil (n : Nat) (out : List Ev) : goV [] n out = (out, 0, 0) := rfl
theorem lim_zero : parseV (limT 0) = (evsOf (many 2048), 0, 0) := by
  unfold parseV
  have hl := limT_len 0
  rw [if_neg (by omega), lim_lines, go_many 2048 0 [] _ (by decide), show (List.replicate 0 tickP).map (·.1) = [] from rfl, goV_nil, List.nil_append]
theorem lim_more (n : Nat) (h : 0 < n) (h3 : n ≤ 3) : parseV (limT n) = ([], 2049, 7) := by
  unfold parseV
  have hl := limT_len n
  rw [if_neg (by omega), lim_lines, go_many 2048 0 [] _ (by simp)]
  obtain ⟨m, rfl⟩ : ∃ m, n = m + 1 := ⟨n - 1, by omega⟩
  have he := (evs_many 2048).1
  rw [List.replicate_succ, List.map_cons, goV, show lineV tickP.1 = some tickP.2 from good_tick.line]
  simp only
  rw [if_pos (by rw [List.length_append, he]; decide)]
/-- The text, doubled so often. -/
theorem double (k : Nat) (h : k ≤ 11) : textOf (many (2 ^ (k + 1))) = textOf (many (2 ^ k)) ++ textOf (many (2 ^ k)) := by
  have _ := h
  rw [← textOf_app]
  congr 1
  unfold many
  rw [List.replicate_append_replicate]
  congr 1
  rw [Nat.pow_succ]; omega
/-- A text of zeros that is too long. -/
def longT (n : Nat) : List UInt8 := List.replicate n 0
theorem longT_len (n : Nat) : (longT n).length = n := by simp [longT]
theorem zeros_vs (n : Nat) : zerosA n [PV.int .u8 0] = byteVs (longT n) := by
  unfold zerosA byteVs longT
  rw [List.map_replicate]
  induction n with
  | zero => rfl
  | succ n ih => rw [List.replicate_succ, List.flatten_cons, ih]; rfl
theorem zeros_P (n : Nat) : (zerosA n [PV.int .u8 0]).map AV.p = (byteVs (longT n)).map AV.p := by rw [zeros_vs]
theorem allP_map (l : List PV) : allP (l.map .p) = some l := by
  induction l with
  | nil => rfl
  | cons x l ih => simp [allP, ih]
theorem bytesP_vs (l : List UInt8) : bytesP (byteVs l) = some l := by
  induction l with
  | nil => rfl
  | cons x l ih =>
    have e : byteVs (x :: l) = .int .u8 (x.toNat : Int) :: byteVs l := rfl
    rw [e, bytesP, ih]; simp
theorem upd_p (rt tt : Tok → Bool) : (AV.upd (fil rt tt) ∘ AV.p) = AV.p := rfl
theorem take_p (n : Nat) : List.take n ((byteVs (longT n)).map AV.p) = (byteVs (longT n)).map AV.p := List.take_of_length_le (by simp [byteVs, longT_len])
theorem long_ne (n : Nat) (h : 0 < n) : ¬ byteVs (longT n) = [] := fun e => by
  have := congrArg List.length e
  simp [byteVs, longT_len] at this
  omega
theorem byteVs_len (l : List UInt8) : (byteVs l).length = l.length := by simp [byteVs]
theorem slimit_cr [Evs] (n : Int) (_ : -9223372036854775808 ≤ n ∧ n ≤ 9223372036854775807) : CR Tryd.prog 7 [] [.p (.int .i64 n)] [] (is (.p (.bool true))) := by
  refine CR_of_wp mixed 19 [] Tryd.func7 rfl (by kernel_rfl) rfl (by simp) (by simp) ?_
  have hand : ∃ k : Nat, k ≤ 3 ∧ IntKind.i64.wrap ((BitVec.ofInt 64 n &&& 3#64).toNat : Int) = k := by
    refine ⟨(BitVec.ofInt 64 n &&& 3#64).toNat, ?_, ?_⟩
    · rw [BitVec.toNat_and]; exact Nat.and_le_right
    · have : (BitVec.ofInt 64 n &&& 3#64).toNat ≤ 3 := by
        rw [BitVec.toNat_and]; exact Nat.and_le_right
      exact wrap64 (by omega) (by omega)
  obtain ⟨k, hk3, hk⟩ := hand
  simp (maxSteps := 1000000) [go_sem, Tryd.f7]
  refine wpA_loop (fun i : Nat => i ≤ 32) (fun i => { n := 112, nv := 19, vs := [(0, .p (.int .i64 (k : Int))), (2, .p (.bool false)), (3, .p (.str (zs (2 * i)))), (4, .p (.int .i64 i))], ts := [], rs := [] }) (fun i => 32 - i) 0 (by simp) (by simp [go_sem, LeS, leV, leR, leA, zs]; exact hk) ?_
  rintro i hi
  simp (maxSteps := 1000000) [go_sem]
  refine condK_if (fun h => ?_) (fun h => ?_)
  · have w1 : IntKind.i64.wrap ((i : Int) + 1) = (i : Int) + 1 := wrap64 (by omega) (by omega)
    have e : zs (2 * (i + 1)) = zs (2 * i) ++ [48, 48] := by
      unfold zs; rw [show 2 * (i + 1) = 2 * i + 2 by omega, ← List.replicate_append_replicate]; rfl
    have hl : (zs (2 * i)).length = 2 * i := by simp [zs]
    generalize zs (2 * i) = s at *
    simp (maxSteps := 1000000) [go_sem, w1]
    exact ⟨by omega, LoopK_next (i + 1) (by omega) (by simp [go_sem, LeS, leV, leR, leA, e]) (by omega)⟩
  have hi32 : i = 32 := by omega
  subst hi32
  have e1 : textOf (many (2 ^ 0)) = [98, 121, 116, 101, 115, 32] ++ zs (2 * 32) ++ [10] := by decide
  have hl : (zs (2 * 32)).length = 64 := by decide
  generalize zs (2 * 32) = z at *
  simp (maxSteps := 1000000) [go_sem]
  refine ⟨by omega, by omega, ?_⟩
  refine wpA_loop (fun i : Nat => i ≤ 11) (fun i => { n := 112, nv := 19, vs := [(0, .p (.int .i64 (k : Int))), (2, .p (.bool false)), (5, .p (.str (textOf (many (2 ^ i))))), (6, .p (.int .i64 i))], ts := [], rs := [] }) (fun i => 11 - i) 0 (by simp) (by rw [e1]; simp [go_sem, LeS, leV, leR, leA]) ?_
  rintro i hi
  simp (maxSteps := 1000000) [go_sem]
  refine condK_if (fun h => ?_) (fun h => ?_)
  · have w1 : IntKind.i64.wrap ((i : Int) + 1) = (i : Int) + 1 := wrap64 (by omega) (by omega)
    have e := double i (by omega)
    have hl2 := textOf_many_len (2 ^ i)
    have hp : 2 ^ i ≤ 2 ^ 11 := Nat.pow_le_pow_right (by omega) (by omega)
    generalize textOf (many (2 ^ i)) = s at *
    simp (maxSteps := 1000000) [go_sem, w1]
    exact ⟨by omega, LoopK_next (i + 1) (by omega) (by rw [e]; simp [go_sem, LeS, leV, leR, leA]) (by omega)⟩
  have hi11 : i = 11 := by omega
  subst hi11
  have e2 : textOf (many (2 ^ 11)) = limT 0 := by unfold limT; rw [show List.replicate 0 tickP = [] from rfl, List.append_nil]
  rw [e2]
  simp (maxSteps := 1000000) [go_sem]
  refine wpA_loop (fun i : Nat => i ≤ k) (fun i => { n := 112, nv := 19, vs := [(0, .p (.int .i64 (k : Int))), (2, .p (.bool false)), (5, .p (.str (limT i))), (7, .p (.int .i64 i))], ts := [], rs := [] }) (fun i => k - i) 0 (by simp) (by simp [go_sem, LeS, leV, leR, leA]) ?_
  rintro i hi
  simp (maxSteps := 1000000) [go_sem]
  refine condK_if (fun h => ?_) (fun h => ?_)
  · have w1 : IntKind.i64.wrap ((i : Int) + 1) = (i : Int) + 1 := wrap64 (by omega) (by omega)
    have e : limT (i + 1) = limT i ++ [116, 105, 99, 107, 10] := by
      unfold limT
      rw [List.replicate_succ', ← List.append_assoc, textOf_app (many 2048 ++ _)]
      rfl
    have hl2 := limT_len i
    generalize limT i = s at *
    simp (maxSteps := 1000000) [go_sem, w1]
    exact ⟨by omega, LoopK_next (i + 1) (by omega) (by rw [e]; simp [go_sem, LeS, leV, leR, leA]) (by omega)⟩
  have hik : i = k := by omega
  subst hik
  have kp := parse_cr (limT i)
  rw [parse_eq] at kp
  have kz := lim_zero
  have km := lim_more i
  have hl2 := limT_len i
  have hz : i = 0 → parseV (limT i) = (evsOf (many 2048), 0, 0) := fun e => by subst e; exact kz
  generalize limT i = s at *
  have ka := awake_cr
  simp (maxSteps := 1000000) [go_sem]
  refine ⟨⟨rfl, by simp [Tryd.f8]⟩, CallK_of [] kp (by simp [go_sem]) ⟨by simp [go_sem], by simp [go_sem]⟩ (by simp [go_sem]) ?_⟩
  rintro y rs ⟨rfl, rfl⟩
  simp (maxSteps := 1000000) [go_sem]
  obtain ⟨N, hN, hN1, hN2⟩ : ∃ N : Nat, (262145 : Int) = N ∧ 262144 < N ∧ N ≤ 1000000 := ⟨262145, rfl, by omega, by omega⟩
  rw [hN]
  have kz2 := parse_cr (longT N)
  have ez : parseP (longT N) = ([], 0, 3) := by unfold parseP; rw [if_pos (by rw [longT_len]; exact hN1)]
  rw [ez] at kz2
  clear hN ez
  refine condK_if (fun h => ?_) (fun h => ?_)
  · have h0 : i = 0 := by omega
    have hv := hz h0
    have hm := evs_many 2048
    generalize evsOf (many 2048) = es at *
    rw [hv]
    have hel : es.length = 65536 := hm.1
    have hok : ∀ x ∈ es, x.ok := fun x hx => by
      rw [hm.2 x hx]
      exact ⟨⟨by decide, by decide⟩, by decide, by decide, by decide⟩
    have hok2 : ∀ x ∈ es ++ [⟨2, 0, 0, 0⟩], x.ok := fun x hx => by
      rcases List.mem_append.1 hx with hx | hx
      · exact hok x hx
      · rw [List.mem_singleton] at hx; subst hx
        exact ⟨⟨by decide, by decide⟩, by decide, by decide, by decide⟩
    have p1 := print_cr es hok
    have p2 := print_cr (es ++ [⟨2, 0, 0, 0⟩]) hok2
    rw [print_neat (l := es) (by omega) (fun x hx => by rw [hm.2 x hx]; exact .inl rfl)] at p1
    have e7 : (printL (es ++ [⟨2, 0, 0, 0⟩])).2 = 7 := by
      unfold printL
      rw [if_pos (by rw [List.length_append, hel]; decide)]
    rw [e7] at p2
    generalize (printL es).1 = q1 at *
    generalize (printL (es ++ [⟨2, 0, 0, 0⟩])).1 = q2 at *
    simp (maxSteps := 1000000) [go_sem, hel]
    refine ⟨⟨rfl, by simp [Tryd.f13]⟩, CallK_of [] p1 (by simp [go_sem]) ⟨by simp [go_sem], by simp [go_sem, evsP]⟩ (by simp [go_sem]) ?_⟩
    rintro y rs ⟨rfl, rfl⟩
    simp (maxSteps := 1000000) [go_sem, hel]
    refine ⟨⟨rfl, by simp [Tryd.f13]⟩, CallK_of [] p2 (by simp [go_sem]) ⟨by simp [go_sem], by simp [go_sem, evsP, evP]⟩ (by simp [go_sem]) ?_⟩
    rintro y rs ⟨rfl, rfl⟩
    simp (maxSteps := 1000000) [go_sem, ↓zeros_vs, allP_map, bytesP_vs, upd_p, take_p, byteVs_len, longT_len]
    refine ⟨by omega, long_ne N (by omega), ⟨rfl, by simp [Tryd.f8]⟩, CallK_of [] kz2 (by simp [go_sem]) ⟨by simp [go_sem], by simp [go_sem]⟩ (by simp [go_sem]) ?_⟩
    rintro y rs ⟨rfl, rfl⟩
    simp (maxSteps := 1000000) [go_sem]
    refine ⟨⟨rfl, by simp [Tryd.f11]⟩, CallK_of [] ka (by simp [go_sem]) ⟨by simp [go_sem], by simp [go_sem]⟩ (by simp [go_sem]) ?_⟩
    rintro y rs ⟨rfl, rfl⟩
    simp (maxSteps := 1000000) [go_sem]
    exact ret_is (.p (.bool true)) rfl (by simp [go_sem, resOf, leA]) ⟨rfl, rfl⟩
  · have hv := km (by omega) hk3
    rw [hv]
    simp (maxSteps := 1000000) [go_sem, ↓zeros_vs, allP_map, bytesP_vs, upd_p, take_p, byteVs_len, longT_len]
    refine ⟨by omega, long_ne N (by omega), ⟨rfl, by simp [Tryd.f8]⟩, CallK_of [] kz2 (by simp [go_sem]) ⟨by simp [go_sem], by simp [go_sem]⟩ (by simp [go_sem]) ?_⟩
    rintro y rs ⟨rfl, rfl⟩
    simp (maxSteps := 1000000) [go_sem]
    refine ⟨⟨rfl, by simp [Tryd.f11]⟩, CallK_of [] ka (by simp [go_sem]) ⟨by simp [go_sem], by simp [go_sem]⟩ (by simp [go_sem]) ?_⟩
    rintro y rs ⟨rfl, rfl⟩
    simp (maxSteps := 1000000) [go_sem]
    exact ret_is (.p (.bool true)) rfl (by simp [go_sem, resOf, leA]) ⟨rfl, rfl⟩
end Go.Proofs.YtlmejofikpnbpaaDoor
