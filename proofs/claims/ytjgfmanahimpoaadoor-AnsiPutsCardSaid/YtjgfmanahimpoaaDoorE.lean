/- What the program sends for one op, as a contract of the abstract machine. Conditions: as each law says. -/
import Derived.Test.YtjgfmanahimpoaaDoorD
namespace Go.Proofs.YtjgfmanahimpoaaDoor
open Go.AM
set_option maxHeartbeats 1600000
set_option maxRecDepth 10000
theorem op_cr (o : AOp) : CR Tryd.prog 8 [] [.p (opP o)] [] (is (.p (opP o))) := by
  refine CR_of_wp mixed 3 [] Tryd.func8 rfl (by kernel_rfl) rfl (by simp) (by simp) ?_
  simp (maxSteps := 1000000) (disch := omega) [go_sem, Tryd.f8]
  exact ret_is (.p (opP o)) rfl (by simp [go_sem, resOf, leA]) ⟨rfl, rfl⟩
theorem byL_len (a : Int) (c : List UInt8) : (byL a c).length ≤ 6 + c.length := by
  have := digL_len a
  rw [byL]
  split <;> simp <;> omega
theorem aput_cr (o : AOp) (ha : -9223372036854775808 ≤ o.a) (hb : -9223372036854775808 ≤ o.b) : CR Tryd.prog 7 [] [.p (opP o)] [] (is (.p (.str (putL o)))) := by
  refine CR_of_wpD [7] mixed 5 [7, 8, 12, 30, 32, 34, 36, 38, 40, 44, 48, 52] Tryd.func7 rfl (by kernel_rfl) rfl (by simp) (by simp) ?_
  simp (maxSteps := 1000000) (disch := omega) [go_sem, Tryd.f7, Tryd.t60]
  refine ⟨rfl, rfl, condK_if (fun h1 => ?_) (fun h1 => ?_)⟩
  · simp (maxSteps := 1000000) (disch := omega) [go_sem]
    exact ret_is (.p (.str o.t)) rfl (by simp [go_sem, resOf, leA]) ⟨rfl, by simp [putL, h1]⟩
  simp (maxSteps := 1000000) (disch := omega) [go_sem]
  refine condK_if (fun h2 => ?_) (fun h2 => ?_)
  · have l1 := digL_len (min o.a 9999 + 1)
    have l2 := digL_len (min o.b 9999 + 1)
    have hn1 := num_cr (min o.a 9999 + 1)
    have hn2 := num_cr (min o.b 9999 + 1)
    have hp : putL o = [27, 91] ++ digL (min o.a 9999 + 1) ++ [59] ++ digL (min o.b 9999 + 1) ++ [72] := by simp [putL, h2]
    rw [hp]
    clear hp
    generalize digL (min o.a 9999 + 1) = d1 at *
    generalize digL (min o.b 9999 + 1) = d2 at *
    simp (maxSteps := 1000000) (disch := omega) [go_sem, wrap64, Tryd.t60]
    refine HCallK_of (.p (.str d1)) rfl rfl (fun _ => pcallA_of 24 hn1 rfl ⟨rfl, by simp [Tryd.f24]⟩ ⟨by simp [go_sem], by simp [go_sem]⟩) ?_
    simp (maxSteps := 1000000) (disch := omega) [go_sem, wrap64, Tryd.t60]
    refine ⟨by omega, by omega, HCallK_of (.p (.str d2)) rfl rfl (fun _ => pcallA_of 24 hn2 rfl ⟨rfl, by simp [Tryd.f24]⟩ ⟨by simp [go_sem], by simp [go_sem]⟩) ?_⟩
    simp (maxSteps := 1000000) (disch := omega) [go_sem]
    exact ⟨by omega, by omega, ret_is (.p (.str (27 :: 91 :: (d1 ++ 59 :: (d2 ++ [72]))))) rfl (by simp [go_sem, resOf, leA]) ⟨rfl, rfl⟩⟩
  simp (maxSteps := 1000000) (disch := omega) [go_sem]
  refine condK_if (fun h3 => ?_) (fun h3 => ?_)
  · simp (maxSteps := 1000000) (disch := omega) [go_sem]
    exact ret_is (.p (.str [27, 91, 75])) rfl (by simp [go_sem, resOf, leA]) ⟨rfl, by simp [putL, h3]⟩
  simp (maxSteps := 1000000) (disch := omega) [go_sem]
  refine condK_if (fun h4 => ?_) (fun h4 => ?_)
  · simp (maxSteps := 1000000) (disch := omega) [go_sem]
    exact ret_is (.p (.str [27, 91, 50, 74])) rfl (by simp [go_sem, resOf, leA]) ⟨rfl, by simp [putL, h4]⟩
  simp (maxSteps := 1000000) (disch := omega) [go_sem]
  refine condK_if (fun h5 => ?_) (fun h5 => ?_)
  · simp (maxSteps := 1000000) (disch := omega) [go_sem]
    exact ret_is (.p (.str [7])) rfl (by simp [go_sem, resOf, leA]) ⟨rfl, by simp [putL, h5]⟩
  simp (maxSteps := 1000000) (disch := omega) [go_sem]
  refine condK_if (fun h6 => ?_) (fun h6 => ?_)
  · simp (maxSteps := 1000000) (disch := omega) [go_sem]
    exact ret_is (.p (.str [13])) rfl (by simp [go_sem, resOf, leA]) ⟨rfl, by simp [putL, h6]⟩
  simp (maxSteps := 1000000) (disch := omega) [go_sem]
  refine condK_if (fun h7 => ?_) (fun h7 => ?_)
  · simp (maxSteps := 1000000) (disch := omega) [go_sem]
    exact ret_is (.p (.str [10])) rfl (by simp [go_sem, resOf, leA]) ⟨rfl, by simp [putL, h7]⟩
  simp (maxSteps := 1000000) (disch := omega) [go_sem]
  refine condK_if (fun h8 => ?_) (fun h8 => ?_)
  · simp (maxSteps := 1000000) (disch := omega) [go_sem]
    refine ⟨⟨rfl, by simp [Tryd.f26]⟩, CallC_of [([0], [1]), ([1], [3])] (by_cr o [67] (by simp)) (by simp [go_sem]) ⟨by simp [go_sem], by simp [go_sem]⟩ (by simp [go_sem, nfn]) ?_⟩
    rintro y rs ⟨rfl, rfl⟩
    simp (maxSteps := 1000000) (disch := omega) [go_sem]
    exact ret_is (.p (.str (byL o.a [67]))) rfl (by simp [go_sem, resOf, leA]) ⟨rfl, by simp [putL, h8]⟩
  simp (maxSteps := 1000000) (disch := omega) [go_sem]
  refine condK_if (fun h9 => ?_) (fun h9 => ?_)
  · simp (maxSteps := 1000000) (disch := omega) [go_sem]
    refine ⟨⟨rfl, by simp [Tryd.f26]⟩, CallC_of [([0], [1]), ([1], [3])] (by_cr o [68] (by simp)) (by simp [go_sem]) ⟨by simp [go_sem], by simp [go_sem]⟩ (by simp [go_sem, nfn]) ?_⟩
    rintro y rs ⟨rfl, rfl⟩
    simp (maxSteps := 1000000) (disch := omega) [go_sem]
    exact ret_is (.p (.str (byL o.a [68]))) rfl (by simp [go_sem, resOf, leA]) ⟨rfl, by simp [putL, h9]⟩
  simp (maxSteps := 1000000) (disch := omega) [go_sem]
  refine condK_if (fun h10 => ?_) (fun h10 => ?_)
  · simp (maxSteps := 1000000) (disch := omega) [go_sem]
    refine ⟨⟨rfl, by simp [Tryd.f26]⟩, CallC_of [([0], [1]), ([1], [3])] (by_cr o [65] (by simp)) (by simp [go_sem]) ⟨by simp [go_sem], by simp [go_sem]⟩ (by simp [go_sem, nfn]) ?_⟩
    rintro y rs ⟨rfl, rfl⟩
    simp (maxSteps := 1000000) (disch := omega) [go_sem]
    exact ret_is (.p (.str (byL o.a [65]))) rfl (by simp [go_sem, resOf, leA]) ⟨rfl, by simp [putL, h10]⟩
  simp (maxSteps := 1000000) (disch := omega) [go_sem]
  refine condK_if (fun h11 => ?_) (fun h11 => ?_)
  · simp (maxSteps := 1000000) (disch := omega) [go_sem]
    refine ⟨⟨rfl, by simp [Tryd.f26]⟩, CallC_of [([0], [1]), ([1], [3])] (by_cr o [66] (by simp)) (by simp [go_sem]) ⟨by simp [go_sem], by simp [go_sem]⟩ (by simp [go_sem, nfn]) ?_⟩
    rintro y rs ⟨rfl, rfl⟩
    simp (maxSteps := 1000000) (disch := omega) [go_sem]
    exact ret_is (.p (.str (byL o.a [66]))) rfl (by simp [go_sem, resOf, leA]) ⟨rfl, by simp [putL, h11]⟩
  simp (maxSteps := 1000000) (disch := omega) [go_sem]
  exact ret_is (.p (.str [])) rfl (by simp [go_sem, resOf, leA]) ⟨rfl, by simp [putL, h1, h2, h3, h4, h5, h6, h7, h8, h9, h10, h11]⟩
end Go.Proofs.YtjgfmanahimpoaaDoor
