/- A part of the proof of this seat's statements, by an abstract machine: what each operation does to values, proved over the model, whatever the program. No condition beyond those that stand. -/
import Derived.Test.YtklhmamefbehjaaGapD
namespace Go.Proofs.Ytklhmamefbehjaa
open Go.AM
set_option maxHeartbeats 400000
set_option maxRecDepth 10000
def newR (l : List Int) : AV → List (Tok × List AV) → Prop := fun x rs => ∃ l' : List Int, rs = gapR l' l.length (l.length + 8) ∧ l'.length = l.length + 8 ∧ x = .lp [0] 0 ∧ held l' l.length (l.length + 8) = l
def newU (l : List Int) : AV → List (Tok × List AV) → Prop := fun x rs => x = .lp [9] 0 ∧ rs = [([7], icells (l ++ List.replicate 8 0)), ([9], [.la [7] 1 0 (l.length + 8), .p (.int .i64 (l.length : Int)), .p (.int .i64 ((l.length + 8 : Nat) : Int))])]
theorem new_cr (l : List Int) (h : (l.length : Int) ≤ 4398046511104) : CR Try.prog 5 [] [.p (ints l)] [] (newR l) := by
  refine CR.ren (R := newU l) ?_ 100 ?_
  · refine CR_of_wp mixed 4 [] Try.func5 rfl (by kernel_rfl) rfl (by simp) (by simp) ?_
    obtain ⟨N, hN⟩ : ∃ N : Nat, N = l.length + 8 := ⟨_, rfl⟩
    have e1 : ((l.length : Int) + 8) = N := by omega
    simp (disch := omega) [go_sem, Try.f5, ints, wrap64, e1, Int.max_eq_left]
    refine ⟨by omega, rfl, by omega, ?_⟩
    refine ret_keep [[7], [9]] (.lp [9] 0) (by simp) (by simp [go_sem, resOf, leA]) ⟨rfl, ?_⟩
    have e2 : N - l.length = 8 := by omega
    simp [go_sem, e2, ← hN]
  · rintro x rs ⟨rfl, rfl⟩
    exact ⟨[([0], [9]), ([0, 0], [7])], by simp [go_sem], by simp, l ++ List.replicate 8 0, by simp [go_sem, gapR], by simp, by simp [go_sem], by simp [held]⟩
def sliced (l : List Int) (a b : Int) : List Int := (l.take b.toNat).drop a.toNat
theorem held_length (l : List Int) (f t : Nat) (h1 : f ≤ t) (h2 : t ≤ l.length) : (held l f t).length = l.length - (t - f) := by
  simp [held]; omega
theorem sliced_nil (H : List Int) (a b : Int) (h : min b H.length ≤ max a 0) : sliced H a b = [] := by
  unfold sliced
  apply List.drop_eq_nil_of_le
  simp
  omega
theorem sliced_eq (H : List Int) (a b : Int) (A B : Nat) (hA : (A : Int) = max a 0) (hB : (B : Int) = min b H.length) : sliced H a b = (H.take B).drop A := by
  unfold sliced
  have e1 : a.toNat = A := by omega
  rw [e1]
  congr 1
  by_cases h : b ≤ H.length
  · have e2 : b.toNat = B := by omega
    rw [e2]
  · rw [List.take_of_length_le (by omega), List.take_of_length_le (by omega)]
def fin (l : List Int) (f t : Nat) (a b : Int) : AV → List (Tok × List AV) → Prop := fun x rs => rs = gapR l f t ∧ x = .p (ints (sliced (held l f t) a b))
theorem slice_cr (l : List Int) (f t : Nat) (a b : Int) (h1 : f ≤ t) (h2 : t ≤ l.length) (h3 : (l.length : Int) ≤ 4398046511104) :
    CR Try.prog 13 gapT [.lp [0] 0, .p (.int .i64 a), .p (.int .i64 b)] (gapR l f t) (fin l f t a b) := by
  refine CR_of_wp mixed 9 [] Try.func13 rfl (by kernel_rfl) rfl (by simp) (by simp) ?_
  simp (disch := omega) [go_sem, Try.f13, gapR, gapT, wrap64]
  refine ⟨⟨rfl, by simp [Try.f8]⟩, ?_⟩
  refine CallK_of [([0], [0]), ([0, 0], [0, 0])] (len_cr l f t h1 h2 (by omega)) (by simp [go_sem, gapT]) ⟨by simp [go_sem], by simp [go_sem]⟩ (by simp [go_sem, gapR]) ?_
  rintro x rs ⟨rfl, rfl⟩
  obtain ⟨A, hA⟩ : ∃ A : Nat, (A : Int) = max a 0 := ⟨(max a 0).toNat, by omega⟩
  obtain ⟨M, hM⟩ : ∃ M : Int, M = min b (l.length - (t - f)) := ⟨_, rfl⟩
  simp (disch := omega) [go_sem, gapR, gapT, wrap64, ← hA, ← hM]
  have hl := held_length l f t h1 h2
  refine condK_if (fun h => ?_) (fun h => ?_)
  · simp (disch := omega) [go_sem, wrap64]
    refine ret_keep gapT (.p (ints [])) (by simp [gapT]) (by simp [go_sem, resOf, leA, ints]) ⟨by simp [go_sem, gapT, gapR], ?_⟩
    rw [sliced_nil _ _ _ (by rw [hl]; omega)]
  · obtain ⟨B, rfl⟩ := Int.eq_ofNat_of_zero_le (show 0 ≤ M by omega)
    have hs := sliced_eq (held l f t) a b A B hA (by rw [hl]; omega)
    simp (disch := omega) [go_sem, wrap64]
    refine condK_if (fun h' => ?_) (fun h' => ?_)
    · obtain ⟨C, hC⟩ : ∃ C : Nat, (C : Int) = min (B : Int) (f : Int) := ⟨min B f, by omega⟩
      simp (disch := omega) [go_sem, wrap64, ← hC]
      refine ⟨by omega, by omega, ?_⟩
      refine condK_if (fun h2 => ?_) (fun h2 => ?_)
      · have e1 : max (A : Int) (f : Int) + ((t : Int) - f) = t := by omega
        obtain ⟨D, hD⟩ : ∃ D : Nat, (D : Int) = (B : Int) + ((t : Int) - f) := ⟨B + t - f, by omega⟩
        simp (disch := omega) [go_sem, wrap64, e1, ← hD]
        refine ⟨by omega, by omega, ?_⟩
        refine ret_keep gapT (.p (ints ((l.drop A).take (C - A) ++ (l.drop t).take (D - t)))) (by simp [gapT]) (by simp [go_sem, resOf, leA, ints]) ⟨by simp [go_sem, gapT, gapR], ?_⟩
        rw [hs]
        congr 2
        unfold held
        (apply List.ext_getElem?; intro j; simp only [List.getElem?_append, List.getElem?_take, List.getElem?_drop, List.length_append, List.length_take, List.length_drop, List.getElem?_replicate, List.length_replicate]; (repeat' split); all_goals first | rfl | omega | (congr 1; omega) | (symm; apply List.getElem?_eq_none; omega) | (apply List.getElem?_eq_none; omega))
      · simp (disch := omega) [go_sem, wrap64]
        have hCB : C = B := by omega
        refine ret_keep gapT (.p (ints ((l.drop A).take (C - A)))) (by simp [gapT]) (by simp [go_sem, resOf, leA, ints]) ⟨by simp [go_sem, gapT, gapR], ?_⟩
        rw [hs]
        congr 2
        unfold held
        (apply List.ext_getElem?; intro j; simp only [List.getElem?_append, List.getElem?_take, List.getElem?_drop, List.length_append, List.length_take, List.length_drop, List.getElem?_replicate, List.length_replicate]; (repeat' split); all_goals first | rfl | omega | (congr 1; omega) | (symm; apply List.getElem?_eq_none; omega) | (apply List.getElem?_eq_none; omega))
    · simp (disch := omega) [go_sem, wrap64]
      refine condK_if (fun h4 => ?_) (fun h4 => ?_)
      · have e1 : max (A : Int) (f : Int) + ((t : Int) - f) = (A + t - f : Nat) := by omega
        obtain ⟨D, hD⟩ : ∃ D : Nat, (D : Int) = (B : Int) + ((t : Int) - f) := ⟨B + t - f, by omega⟩
        simp (disch := omega) [go_sem, wrap64, e1, ← hD]
        refine ⟨by omega, by omega, ?_⟩
        refine ret_keep gapT (.p (ints ((l.drop (A + t - f)).take (D - (A + t - f))))) (by simp [gapT]) (by simp [go_sem, resOf, leA, ints]) ⟨by simp [go_sem, gapT, gapR], ?_⟩
        rw [hs]
        congr 2
        unfold held
        (apply List.ext_getElem?; intro j; simp only [List.getElem?_append, List.getElem?_take, List.getElem?_drop, List.length_append, List.length_take, List.length_drop, List.getElem?_replicate, List.length_replicate]; (repeat' split); all_goals first | rfl | omega | (congr 1; omega) | (symm; apply List.getElem?_eq_none; omega) | (apply List.getElem?_eq_none; omega))
      · omega
end Go.Proofs.Ytklhmamefbehjaa
