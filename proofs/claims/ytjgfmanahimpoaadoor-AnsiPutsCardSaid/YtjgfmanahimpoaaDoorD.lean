/- What the program sends for one op, and what the document says, as contracts of the abstract machine. Conditions: as each law says. -/
import Derived.Test.YtjgfmanahimpoaaDoorC
namespace Go.Proofs.YtjgfmanahimpoaaDoor
open Go.AM
set_option maxHeartbeats 1600000
set_option maxRecDepth 10000
/-- An op: its kind, its numbers, its text. -/
structure AOp where
  k : Int
  a : Int
  b : Int
  t : List UInt8
  deriving Inhabited, DecidableEq
def opP (o : AOp) : PV := .agg [.int .i64 o.k, .int .i64 o.a, .int .i64 o.b, .str o.t]
attribute [go_sem] opP
/-- A number's digits, within the bounds. -/
def digL (n : Int) : List UInt8 := Lib.decDigits (min (max n 0) 9999).toNat
theorem digL_len (n : Int) : (digL n).length ≤ 4 := by
  have h : ∀ u : Nat, u ≤ 9999 → Lib.nDigits u ≤ 4 := fun u hu => by
    rw [Lib.nDigits]; split
    · omega
    · rw [Lib.nDigits]; split
      · omega
      · rw [Lib.nDigits]; split
        · omega
        · rw [Lib.nDigits]; split
          · omega
          · exfalso; omega
  rw [digL, Lib.decDigits_length]
  exact h _ (by omega)
def byL (a : Int) (c : List UInt8) : List UInt8 := if a = 1 then [27, 91] ++ c else [27, 91] ++ digL a ++ c
def putL (o : AOp) : List UInt8 :=
  if o.k = 1 then o.t
  else if o.k = 2 then [27, 91] ++ digL (min o.a 9999 + 1) ++ [59] ++ digL (min o.b 9999 + 1) ++ [72]
  else if o.k = 3 then [27, 91, 75]
  else if o.k = 4 then [27, 91, 50, 74]
  else if o.k = 5 then [7]
  else if o.k = 6 then [13]
  else if o.k = 7 then [10]
  else if o.k = 8 then byL o.a [67]
  else if o.k = 9 then byL o.a [68]
  else if o.k = 10 then byL o.a [65]
  else if o.k = 11 then byL o.a [66]
  else []
theorem num_cr (n : Int) : CR Tryd.prog 24 [] [.p (.int .i64 n)] [] (is (.p (.str (digL n)))) := by
  have hi := itoa_cr (min (max n 0) 9999) (by omega) (by omega)
  have e : Lib.itoa (min (max n 0) 9999) = digL n := by
    have : min (max n 0) 9999 = ((min (max n 0) 9999).toNat : Int) := by omega
    rw [this, Lib.itoa_nonneg]; rfl
  rw [e] at hi
  refine CR_of_wp mixed 3 [] Tryd.func24 rfl (by kernel_rfl) rfl (by simp) (by simp) ?_
  simp (maxSteps := 1000000) (disch := omega) [go_sem, Tryd.f24]
  refine ⟨⟨rfl, by simp [Tryd.f25]⟩, CallK_of [] hi (by simp [go_sem]) ⟨by simp [go_sem], by simp [go_sem]⟩ (by simp [go_sem]) ?_⟩
  rintro y rs ⟨rfl, rfl⟩
  simp (maxSteps := 1000000) (disch := omega) [go_sem]
  exact ret_is _ rfl (by simp [go_sem, resOf, leA]) ⟨rfl, rfl⟩
def nfn : AV := .p (.opq (.func (.func 24) #[] #[]))
theorem by_cr (o : AOp) (c : List UInt8) (hc : c.length ≤ 100) : CR Tryd.prog 26 [] [.p (.str c), .lp [0] 0, .lp [1] 0] [([0], [.p (.int .i64 o.k), .p (.int .i64 o.a), .p (.int .i64 o.b), .p (.str o.t)]), ([1], [nfn])] (is (.p (.str (byL o.a c)))) := by
  have hn := num_cr o.a
  have hl := digL_len o.a
  obtain ⟨d, hd⟩ : ∃ d, d = digL o.a := ⟨_, rfl⟩
  have hby : byL o.a c = if o.a = 1 then [27, 91] ++ c else [27, 91] ++ d ++ c := by rw [hd]; rfl
  rw [hby]
  rw [← hd] at hn hl
  clear hby hd
  refine CR_of_wp mixed 5 [] Tryd.func26 rfl (by kernel_rfl) rfl (by simp) (by simp) ?_
  simp (maxSteps := 1000000) (disch := omega) [go_sem, Tryd.f26, nfn]
  refine condK_if (fun h => ?_) (fun h => ?_)
  · simp (maxSteps := 1000000) (disch := omega) [go_sem]
    exact ⟨by omega, ret_is (.p (.str ([27, 91] ++ c))) rfl (by simp [go_sem, resOf, leA]) ⟨rfl, by simp [h]⟩⟩
  · simp (maxSteps := 1000000) (disch := omega) [go_sem, Tryd.t60]
    refine ⟨⟨rfl, by simp [Tryd.f24]⟩, CallK_of [] hn (by simp [go_sem]) ⟨by simp [go_sem], by simp [go_sem]⟩ (by simp [go_sem]) ?_⟩
    rintro y rs ⟨rfl, rfl⟩
    simp (maxSteps := 1000000) (disch := omega) [go_sem]
    exact ⟨by omega, by omega, ret_is (.p (.str ([27, 91] ++ d ++ c))) rfl (by simp [go_sem, resOf, leA]) ⟨rfl, by simp [h]⟩⟩
def moreL (n : Int) : Int := if 9999 < n then 9999 else n + 1
theorem more_cr (n : Int) (h : -9223372036854775808 ≤ n) : CR Tryd.prog 28 [] [.p (.int .i64 n)] [] (is (.p (.int .i64 (moreL n)))) := by
  refine CR_of_wp mixed 3 [] Tryd.func28 rfl (by kernel_rfl) rfl (by simp) (by simp) ?_
  simp (maxSteps := 1000000) (disch := omega) [go_sem, Tryd.f28]
  refine condK_if (fun h => ?_) (fun h => ?_)
  · simp (maxSteps := 1000000) (disch := omega) [go_sem]
    exact ret_is (.p (.int .i64 9999)) rfl (by simp [go_sem, resOf, leA]) ⟨rfl, by rw [moreL, if_pos h]⟩
  · simp (maxSteps := 1000000) (disch := omega) [go_sem, wrap64]
    exact ret_is (.p (.int .i64 (n + 1))) rfl (by simp [go_sem, resOf, leA]) ⟨rfl, by rw [moreL, if_neg h]⟩
theorem dig_step (m : Nat) (h : 0 < m) : (if m = 0 then [] else Lib.decDigits m) = (if m / 10 = 0 then [] else Lib.decDigits (m / 10)) ++ [UInt8.ofNat (48 + m % 10)] := by
  rw [if_neg (by omega), Lib.decDigits]
  by_cases h1 : m < 10
  · rw [dif_pos h1, if_pos (by omega), show m % 10 = m from by omega]; rfl
  · rw [dif_neg h1, if_neg (by omega)]
theorem digits_cr (n : Int) : CR Tryd.prog 27 [] [.p (.int .i64 n)] [] (is (.p (.str (digL n)))) := by
  refine CR_of_wp mixed 4 [] Tryd.func27 rfl (by kernel_rfl) rfl (by simp) (by simp) ?_
  simp (maxSteps := 1000000) (disch := omega) [go_sem, Tryd.f27]
  refine condK_if (fun h => ?_) (fun h => ?_)
  · simp (maxSteps := 1000000) (disch := omega) [go_sem]
    refine ret_is (.p (.str [48])) rfl (by simp [go_sem, resOf, leA]) ⟨rfl, ?_⟩
    have : (min (max n 0) 9999).toNat = 0 := by omega
    rw [digL, this, Lib.decDigits_one (by decide)]; rfl
  · simp (maxSteps := 1000000) (disch := omega) [go_sem]
    refine condK_if (fun h2 => ?_) (fun h2 => ?_)
    · simp (maxSteps := 1000000) (disch := omega) [go_sem]
      refine ret_is (.p (.str [57, 57, 57, 57])) rfl (by simp [go_sem, resOf, leA]) ⟨rfl, ?_⟩
      have : (min (max n 0) 9999).toNat = 9999 := by omega
      rw [digL, this]
      have : Lib.decDigits 9999 = [57, 57, 57, 57] := by decide +kernel
      rw [this]
    · obtain ⟨u, rfl⟩ : ∃ u : Nat, n = u := ⟨n.toNat, by omega⟩
      have hd : digL u = Lib.decDigits u := by
        have : (min (max (u : Int) 0) 9999).toNat = u := by omega
        rw [digL, this]
      rw [hd]
      have hu : Lib.decDigits u = if u = 0 then [] else Lib.decDigits u := by rw [if_neg (by omega)]
      simp (maxSteps := 1000000) (disch := omega) [go_sem]
      refine wpA_loop (fun i : Nat × List UInt8 => i.1 ≤ u ∧ i.2.length + i.1 ≤ 10000 ∧ Lib.decDigits u = (if i.1 = 0 then [] else Lib.decDigits i.1) ++ i.2) (fun i => { n := 21, nv := 4, vs := [(0, .p (.int .i64 i.1)), (3, .p (.str i.2))], ts := [], rs := [] }) (fun i => i.1) (u, []) ⟨Nat.le_refl _, by simp; omega, by rw [List.append_nil]; exact hu⟩ (by simp [go_sem, LeS, leV, leR, leA]) ?_
      rintro ⟨m, t⟩ ⟨hm, ht, he⟩
      simp only at hm ht he
      simp (maxSteps := 1000000) (disch := omega) [go_sem]
      refine condK_if (fun h3 => ?_) (fun h3 => ?_)
      · simp (maxSteps := 1000000) (disch := omega) [go_sem, wrap64]
        have e0 : (m : Int).tmod 10 = ((m % 10 : Nat) : Int) := by
          rw [Int.tmod_eq_emod_of_nonneg (by omega)]; rfl
        have e1 : UInt8.ofNat (IntKind.u8.wrap (IntKind.i64.wrap (48 + (m : Int).tmod 10))).toNat = UInt8.ofNat (48 + m % 10) := by
          rw [e0, wrap64 (by omega) (by omega)]
          have : IntKind.u8.wrap (48 + ((m % 10 : Nat) : Int)) = ((48 + m % 10 : Nat) : Int) := by
            simp [IntKind.wrap, IntKind.signed, IntKind.bits]; omega
          rw [this, Int.toNat_natCast]
        refine ⟨by omega, LoopK_next (m / 10, UInt8.ofNat (48 + m % 10) :: t) ⟨by simp only; omega, by simp only [List.length_cons]; omega, ?_⟩ (by simp [go_sem, LeS, leV, leR, leA, e1]) (by simp only; omega)⟩
        show Lib.decDigits u = (if m / 10 = 0 then [] else Lib.decDigits (m / 10)) ++ UInt8.ofNat (48 + m % 10) :: t
        rw [he, dig_step m (by omega)]
        simp
      · obtain rfl : m = 0 := by omega
        simp (maxSteps := 1000000) (disch := omega) [go_sem]
        exact ret_is (.p (.str t)) rfl (by simp [go_sem, resOf, leA]) ⟨rfl, by rw [he]; rfl⟩
end Go.Proofs.YtjgfmanahimpoaaDoor
