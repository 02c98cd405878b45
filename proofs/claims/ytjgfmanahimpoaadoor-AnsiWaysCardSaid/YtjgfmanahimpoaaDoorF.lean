/- What the document says is sent for one op, as a contract of the abstract machine: the same bytes as the program's. Conditions: as each law says. -/
import Derived.Test.YtjgfmanahimpoaaDoorE
namespace Go.Proofs.YtjgfmanahimpoaaDoor
open Go.AM
set_option maxHeartbeats 1600000
set_option maxRecDepth 10000
theorem dig_more (n : Int) : digL (moreL n) = digL (min n 9999 + 1) := by
  rw [moreL, digL, digL]
  have : (min (max (if 9999 < n then 9999 else n + 1) 0) 9999).toNat = (min (max (min n 9999 + 1) 0) 9999).toNat := by split <;> omega
  rw [this]
theorem rput_cr (o : AOp) (ha : -9223372036854775808 ≤ o.a) (hb : -9223372036854775808 ≤ o.b) : CR Tryd.prog 9 [] [.p (opP o)] [] (is (.p (.str (putL o)))) := by
  refine CR_of_wpD [5] mixed 6 [6, 10, 24, 26, 28, 30, 32, 34] Tryd.func9 rfl (by kernel_rfl) rfl (by simp) (by simp) ?_
  simp (maxSteps := 1000000) (disch := omega) [go_sem, Tryd.f9]
  refine condK_if (fun h1 => ?_) (fun h1 => ?_)
  · simp (maxSteps := 1000000) (disch := omega) [go_sem]
    exact ret_is (.p (.str o.t)) rfl (by simp [go_sem, resOf, leA]) ⟨rfl, by simp [putL, h1]⟩
  simp (maxSteps := 1000000) (disch := omega) [go_sem]
  refine condK_if (fun h2 => ?_) (fun h2 => ?_)
  · have l1 := digL_len (min o.a 9999 + 1)
    have l2 := digL_len (min o.b 9999 + 1)
    have m1 := more_cr o.a ha
    have m2 := more_cr o.b hb
    have hn1 := digits_cr (moreL o.a)
    have hn2 := digits_cr (moreL o.b)
    have hp : putL o = [27, 91] ++ digL (min o.a 9999 + 1) ++ [59] ++ digL (min o.b 9999 + 1) ++ [72] := by simp [putL, h2]
    rw [hp]
    rw [dig_more] at hn1 hn2
    clear hp
    generalize digL (min o.a 9999 + 1) = d1 at *
    generalize digL (min o.b 9999 + 1) = d2 at *
    generalize moreL o.a = r1 at *
    generalize moreL o.b = r2 at *
    simp (maxSteps := 1000000) (disch := omega) [go_sem]
    refine HCallK_of (.p (.int .i64 r1)) rfl rfl (fun _ => pcallA_of 28 m1 rfl ⟨rfl, by simp [Tryd.f28]⟩ ⟨by simp [go_sem], by simp [go_sem]⟩) ?_
    simp (maxSteps := 1000000) (disch := omega) [go_sem]
    refine HCallK_of (.p (.str d1)) rfl rfl (fun _ => pcallA_of 27 hn1 rfl ⟨rfl, by simp [Tryd.f27]⟩ ⟨by simp [go_sem], by simp [go_sem]⟩) ?_
    simp (maxSteps := 1000000) (disch := omega) [go_sem]
    refine ⟨by omega, by omega, ?_⟩
    refine HCallK_of (.p (.int .i64 r2)) rfl rfl (fun _ => pcallA_of 28 m2 rfl ⟨rfl, by simp [Tryd.f28]⟩ ⟨by simp [go_sem], by simp [go_sem]⟩) ?_
    simp (maxSteps := 1000000) (disch := omega) [go_sem]
    refine HCallK_of (.p (.str d2)) rfl rfl (fun _ => pcallA_of 27 hn2 rfl ⟨rfl, by simp [Tryd.f27]⟩ ⟨by simp [go_sem], by simp [go_sem]⟩) ?_
    simp (maxSteps := 1000000) (disch := omega) [go_sem]
    exact ⟨by omega, by omega, ret_is (.p (.str (27 :: 91 :: (d1 ++ 59 :: (d2 ++ [72]))))) rfl (by simp [go_sem, resOf, leA]) ⟨rfl, rfl⟩⟩
  simp (maxSteps := 1000000) (disch := omega) [go_sem]
  refine condK_if (fun h3 => ?_) (fun h3 => ?_)
  · simp (maxSteps := 1000000) (disch := omega) [go_sem]
    exact ret_is (.p (.str [27, 91, 75])) rfl (by simp [go_sem, resOf, leA]) ⟨rfl, by simp [putL, h3]⟩
  simp (maxSteps := 1000000) (disch := omega) [go_sem]
  refine condK_if (fun h4 => ?_) (fun h4 => ?_)
  · simp (maxSteps := 1000000) (disch := omega) [go_sem]
    exact ret_is (.p (.str [27, 91, 50, 74])) rfl (by simp [go_sem, resOf, leA]) ⟨rfl, by simp [putL, h4]⟩
  simp (maxSteps := 1000000) (disch := omega) [go_sem]
  refine condK_if (fun h5 => ?_) (fun h5 => ?_)
  · simp (maxSteps := 1000000) (disch := omega) [go_sem]
    exact ret_is (.p (.str [7])) rfl (by simp [go_sem, resOf, leA]) ⟨rfl, by simp [putL, h5]⟩
  simp (maxSteps := 1000000) (disch := omega) [go_sem]
  refine condK_if (fun h6 => ?_) (fun h6 => ?_)
  · simp (maxSteps := 1000000) (disch := omega) [go_sem]
    exact ret_is (.p (.str [13])) rfl (by simp [go_sem, resOf, leA]) ⟨rfl, by simp [putL, h6]⟩
  simp (maxSteps := 1000000) (disch := omega) [go_sem]
  refine condK_if (fun h7 => ?_) (fun h7 => ?_)
  · simp (maxSteps := 1000000) (disch := omega) [go_sem]
    exact ret_is (.p (.str [10])) rfl (by simp [go_sem, resOf, leA]) ⟨rfl, by simp [putL, h7]⟩
  simp (maxSteps := 1000000) (disch := omega) [go_sem]
  refine condK_if (fun h8 => ?_) (fun h8 => ?_)
  · simp (maxSteps := 1000000) (disch := omega) [go_sem, h8]
    refine condK_ifn (fun p => ?_) (fun p => ?_)
    · have hn := digits_cr o.a
      have hl := digL_len o.a
      have hp : putL o = [27, 91] ++ digL o.a ++ [67] := by simp [putL, h8, byL, p]
      rw [hp]
      clear hp
      generalize digL o.a = d1 at *
      simp (maxSteps := 1000000) (disch := omega) [go_sem]
      refine ⟨⟨rfl, by simp [Tryd.f27]⟩, CallK_of [] hn (by simp [go_sem]) ⟨by simp [go_sem], by simp [go_sem]⟩ (by simp [go_sem]) ?_⟩
      rintro y rs ⟨rfl, rfl⟩
      simp (maxSteps := 1000000) (disch := omega) [go_sem, wrap64, cut]
      exact ⟨by omega, by omega, ret_is (.p (.str ([27, 91] ++ d1 ++ [67]))) rfl (by simp [go_sem, resOf, leA]) ⟨rfl, rfl⟩⟩
    · have hp : putL o = [27, 91] ++ [67] := by simp [putL, h8, byL]; omega
      rw [hp]
      clear hp
      simp (maxSteps := 1000000) (disch := omega) [go_sem, wrap64, cut]
      exact ret_is (.p (.str [27, 91, 67])) rfl (by simp [go_sem, resOf, leA]) ⟨rfl, rfl⟩
  simp (maxSteps := 1000000) (disch := omega) [go_sem]
  refine condK_if (fun h9 => ?_) (fun h9 => ?_)
  · simp (maxSteps := 1000000) (disch := omega) [go_sem, h9]
    refine condK_ifn (fun p => ?_) (fun p => ?_)
    · have hn := digits_cr o.a
      have hl := digL_len o.a
      have hp : putL o = [27, 91] ++ digL o.a ++ [68] := by simp [putL, h9, byL, p]
      rw [hp]
      clear hp
      generalize digL o.a = d1 at *
      simp (maxSteps := 1000000) (disch := omega) [go_sem]
      refine ⟨⟨rfl, by simp [Tryd.f27]⟩, CallK_of [] hn (by simp [go_sem]) ⟨by simp [go_sem], by simp [go_sem]⟩ (by simp [go_sem]) ?_⟩
      rintro y rs ⟨rfl, rfl⟩
      simp (maxSteps := 1000000) (disch := omega) [go_sem, wrap64, cut]
      exact ⟨by omega, by omega, ret_is (.p (.str ([27, 91] ++ d1 ++ [68]))) rfl (by simp [go_sem, resOf, leA]) ⟨rfl, rfl⟩⟩
    · have hp : putL o = [27, 91] ++ [68] := by simp [putL, h9, byL]; omega
      rw [hp]
      clear hp
      simp (maxSteps := 1000000) (disch := omega) [go_sem, wrap64, cut]
      exact ret_is (.p (.str [27, 91, 68])) rfl (by simp [go_sem, resOf, leA]) ⟨rfl, rfl⟩
  simp (maxSteps := 1000000) (disch := omega) [go_sem]
  refine condK_if (fun h10 => ?_) (fun h10 => ?_)
  · simp (maxSteps := 1000000) (disch := omega) [go_sem, h10]
    refine condK_ifn (fun p => ?_) (fun p => ?_)
    · have hn := digits_cr o.a
      have hl := digL_len o.a
      have hp : putL o = [27, 91] ++ digL o.a ++ [65] := by simp [putL, h10, byL, p]
      rw [hp]
      clear hp
      generalize digL o.a = d1 at *
      simp (maxSteps := 1000000) (disch := omega) [go_sem]
      refine ⟨⟨rfl, by simp [Tryd.f27]⟩, CallK_of [] hn (by simp [go_sem]) ⟨by simp [go_sem], by simp [go_sem]⟩ (by simp [go_sem]) ?_⟩
      rintro y rs ⟨rfl, rfl⟩
      simp (maxSteps := 1000000) (disch := omega) [go_sem, wrap64, cut]
      exact ⟨by omega, by omega, ret_is (.p (.str ([27, 91] ++ d1 ++ [65]))) rfl (by simp [go_sem, resOf, leA]) ⟨rfl, rfl⟩⟩
    · have hp : putL o = [27, 91] ++ [65] := by simp [putL, h10, byL]; omega
      rw [hp]
      clear hp
      simp (maxSteps := 1000000) (disch := omega) [go_sem, wrap64, cut]
      exact ret_is (.p (.str [27, 91, 65])) rfl (by simp [go_sem, resOf, leA]) ⟨rfl, rfl⟩
  simp (maxSteps := 1000000) (disch := omega) [go_sem]
  by_cases h11 : o.k = 11
  · simp (maxSteps := 1000000) (disch := omega) [go_sem, h11]
    refine condK_ifn (fun p => ?_) (fun p => ?_)
    · have hn := digits_cr o.a
      have hl := digL_len o.a
      have hp : putL o = [27, 91] ++ digL o.a ++ [66] := by simp [putL, h11, byL, p]
      rw [hp]
      clear hp
      generalize digL o.a = d1 at *
      simp (maxSteps := 1000000) (disch := omega) [go_sem]
      refine ⟨⟨rfl, by simp [Tryd.f27]⟩, CallK_of [] hn (by simp [go_sem]) ⟨by simp [go_sem], by simp [go_sem]⟩ (by simp [go_sem]) ?_⟩
      rintro y rs ⟨rfl, rfl⟩
      simp (maxSteps := 1000000) (disch := omega) [go_sem, wrap64, cut]
      exact ⟨by omega, by omega, ret_is (.p (.str ([27, 91] ++ d1 ++ [66]))) rfl (by simp [go_sem, resOf, leA]) ⟨rfl, rfl⟩⟩
    · have hp : putL o = [27, 91] ++ [66] := by simp [putL, h11, byL]; omega
      rw [hp]
      clear hp
      simp (maxSteps := 1000000) (disch := omega) [go_sem, wrap64, cut]
      exact ret_is (.p (.str [27, 91, 66])) rfl (by simp [go_sem, resOf, leA]) ⟨rfl, rfl⟩
  simp (maxSteps := 1000000) (disch := omega) [go_sem, h11]
  exact ret_is (.p (.str [])) rfl (by simp [go_sem, resOf, leA]) ⟨rfl, by simp [putL, h1, h2, h3, h4, h5, h6, h7, h8, h9, h10, h11]⟩
end Go.Proofs.YtjgfmanahimpoaaDoor
