/- A part of the proof of this seat's statements, by an abstract machine: what each operation does to values, proved over the model, whatever the program. No condition beyond those that stand. -/
import Derived.Test.YtklhmamefbehjaaGapF
namespace Go.Proofs.Ytklhmamefbehjaa
open Go.AM
set_option maxHeartbeats 400000
set_option maxRecDepth 10000
theorem same_cr (a b : List Int) (ha : (a.length : Int) ≤ 140737488355328): CR Try.prog 9 [] [.p (ints a), .p (ints b)] [] fun x rs => rs = [] ∧ x = .p (.bool (decide (a = b))) := by
  refine CR_of_wp mixed 6 [] Try.func9 rfl (by kernel_rfl) rfl (by simp) (by simp) ?_
  simp [go_sem, Try.f9, ints]
  refine condK_ifn (fun h => ?_) (fun h => ?_)
  · simp [go_sem]
    have hne : a ≠ b := fun e => h (by rw [e])
    exact ret_is (.p (.bool false)) rfl (by simp [go_sem, resOf, leA]) ⟨rfl, by simp [hne]⟩
  · simp [go_sem]
    refine wpA_loop (fun k : Nat => k ≤ a.length ∧ a.take k = b.take k) (fun k => { n := 26, nv := 6, vs := [(0, .p (ints a)), (1, .p (ints b)), (5, .p (.int .i64 k))], ts := [], rs := [] }) (fun k => a.length - k) 0 (by simp) (by simp [go_sem, LeS, leV, leR, leA, ints]) ?_
    intro k ⟨hk, hab⟩
    simp [go_sem, ints]
    refine condK_if (fun hlt => ?_) (fun hge => ?_)
    · have hltb : k < b.length := by omega
      simp [go_sem, isrc_at, hlt, hltb]
      refine condK_ifn (fun hne => ?_) (fun heq => ?_)
      · simp [go_sem]
        refine ret_is (.p (.bool false)) rfl (by simp [go_sem, resOf, leA]) ⟨rfl, ?_⟩
        simp
        intro e; subst e; exact hne rfl
      · simp (disch := omega) [go_sem, wrap64]
        refine LoopK_next (k + 1) ⟨by omega, ?_⟩ (by simp [go_sem, LeS, leV, leR, leA, ints]) (by omega)
        rw [List.take_succ_eq_append_getElem hlt, List.take_succ_eq_append_getElem hltb, hab, heq]
    · simp [go_sem]
      refine ret_is (.p (.bool true)) rfl (by simp [go_sem, resOf, leA]) ⟨rfl, ?_⟩
      have hk' : k = a.length := by omega
      have hb' : a.length = b.length := by omega
      rw [List.take_of_length_le (by omega), List.take_of_length_le (by omega)] at hab
      simp [hab]
def yes : AV → List (Tok × List AV) → Prop := fun x rs => rs = [] ∧ x = .p (.bool true)
theorem awake_cr : CR Try.prog 11 [] [] [] yes := by
  refine CR_of_wp mixed 2 [] Try.func11 rfl (by kernel_rfl) rfl (by simp) (by simp) ?_
  simp (disch := omega) [go_sem, Try.f11, wrap64]
  refine ⟨rfl, ⟨rfl, by simp [Try.f5]⟩, ?_⟩
  refine CallK_of [] (new_cr [1, 2, 3] (by simp)) (by simp [go_sem]) ⟨by simp [go_sem], by simp [go_sem, ints, isrc]⟩ (by simp [go_sem]) ?_
  rintro x rs ⟨l1, rfl, hl1, rfl, hh1⟩
  simp (disch := omega) [go_sem, gapR, gapT, wrap64]
  simp at hl1 hh1
  refine ⟨rfl, ⟨rfl, by simp [Try.f7]⟩, ?_⟩
  refine CallK_of [([0], [3, 0]), ([0, 0], [3, 0, 0])] (splice_cr l1 3 11 1 2 [7, 8] (by omega) (by omega) (by simp; omega)) (by simp [go_sem]) ⟨by simp [go_sem], by simp [go_sem, ints, isrc]⟩ (by simp [go_sem, gapR]) ?_
  rintro x rs ⟨l2, f2, t2, rfl, r1, r2, r3, rfl, r5⟩
  have hyes : okS l1 3 11 1 2 = true := by simp [okS]; omega
  rw [hyes, hh1] at r5
  rw [hyes]
  simp [spliced] at r5
  simp (disch := omega) [go_sem, gapR, gapT, wrap64]
  have hl2 := held_length l2 f2 t2 r1 r2
  rw [r5] at hl2
  simp at hl2
  have r3' : l2.length = 11 := by
    rcases r3 with h | ⟨h, _⟩
    · omega
    · simp at h
  refine ⟨⟨rfl, by simp [Try.f10]⟩, ?_⟩
  refine CallK_of [([0], [3, 0]), ([0, 0], [3, 0, 0])] (all_cr l2 f2 t2 r1 r2 (by omega)) (by simp [go_sem, gapT]) ⟨by simp [go_sem], by simp [go_sem]⟩ (by simp [go_sem, gapR]) ?_
  rintro x rs ⟨rfl, rfl⟩
  rw [r5]
  simp (disch := omega) [go_sem, gapR, gapT, wrap64, ints]
  refine ⟨rfl, ⟨rfl, by simp [Try.f9]⟩, ?_⟩
  refine CallK_of [] (same_cr [1, 7, 8, 3] [1, 7, 8, 3] (by simp)) (by simp [go_sem]) ⟨by simp [go_sem], by simp [go_sem, ints, isrc]⟩ (by simp [go_sem]) ?_
  rintro x rs ⟨rfl, rfl⟩
  simp (disch := omega) [go_sem, gapR, gapT, wrap64]
  refine ⟨⟨rfl, by simp [Try.f8]⟩, ?_⟩
  refine CallK_of [([0], [3, 0]), ([0, 0], [3, 0, 0])] (len_cr l2 f2 t2 r1 r2 (by omega)) (by simp [go_sem, gapT]) ⟨by simp [go_sem], by simp [go_sem]⟩ (by simp [go_sem, gapR]) ?_
  rintro x rs ⟨rfl, rfl⟩
  have e4 : (l2.length : Int) - (t2 - f2) = 4 := by omega
  rw [e4]
  simp (disch := omega) [go_sem, gapR, gapT, wrap64]
  exact ret_is (.p (.bool true)) rfl (by simp [go_sem, resOf, leA]) ⟨rfl, rfl⟩
end Go.Proofs.Ytklhmamefbehjaa
