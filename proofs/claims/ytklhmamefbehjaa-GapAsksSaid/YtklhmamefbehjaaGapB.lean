/- A part of the proof of this seat's statements, by an abstract machine: what each operation does to values, proved over the model, whatever the program. No condition beyond those that stand. -/
import Derived.Test.YtklhmamefbehjaaGapA
namespace Go.Proofs.Ytklhmamefbehjaa
open Go.AM
set_option maxHeartbeats 400000
set_option maxRecDepth 10000
def roomR (l : List Int) (f t n : Nat) : AV → List (Tok × List AV) → Prop := fun _ rs => ∃ l' t', rs = gapR l' f t' ∧ f + n ≤ t' ∧ t' ≤ l'.length ∧ (l'.length = l.length ∨ t < f + n ∧ l'.length = 2 * l.length + n) ∧ held l' f t' = held l f t
def roomU (l : List Int) (f t n : Nat) : AV → List (Tok × List AV) → Prop := fun _ rs => ∃ (l' : List Int) (t' : Nat) (u : Tok), (u = [0, 0] ∨ u = [25]) ∧ rs = [([0], [.la u 1 0 l'.length, .p (.int .i64 (f : Int)), .p (.int .i64 (t' : Int))]), (u, icells l')] ∧ f + n ≤ t' ∧ t' ≤ l'.length ∧ (l'.length = l.length ∨ t < f + n ∧ l'.length = 2 * l.length + n) ∧ held l' f t' = held l f t
theorem held_wide (l : List Int) (f t n T N : Nat) (h1 : f ≤ t) (h2 : t ≤ l.length) (hN : N = 2 * l.length + n) (hT : T + l.length = N + t) :
    held ((l.take f ++ List.replicate (N - f) 0).take T ++ ((l.drop t).take (l.length - t) ++ (l.take f ++ List.replicate (N - f) 0).drop (T + (l.length - t)))) f T = held l f t := by
  unfold held
  (apply List.ext_getElem?; intro j; simp only [List.getElem?_append, List.getElem?_take, List.getElem?_drop, List.length_append, List.length_take, List.length_drop, List.getElem?_replicate, List.length_replicate]; (repeat' split); all_goals first | rfl | omega | (congr 1; omega) | (symm; apply List.getElem?_eq_none; omega) | (apply List.getElem?_eq_none; omega))
theorem room_cr (l : List Int) (f t n : Nat) (h1 : f ≤ t) (h2 : t ≤ l.length) (h3 : (2 * l.length + n : Int) ≤ 17592186044416) :
    CR Try.prog 16 [[0]] [.lp [0] 0, .p (.int .i64 n)] (gapR l f t) (roomR l f t n) := by
  refine CR.ren (R := roomU l f t n) ?_ 100 ?_
  · refine CR_of_wp mixed 6 [] Try.func16 rfl (by kernel_rfl) rfl (by simp) (by simp) ?_
    simp (disch := omega) [go_sem, Try.f16, gapR, gapT, wrap64]
    refine condK_if (fun h => ?_) (fun h => ?_)
    · simp (disch := omega) [go_sem, wrap64]
      refine ret_keep [[0], [0, 0]] (.tup []) (by simp) (by simp [go_sem, resOf, leA]) ?_
      refine ⟨l, t, [0, 0], .inl rfl, ?_, by omega, h2, .inl rfl, rfl⟩
      simp [go_sem]
    · obtain ⟨N, hN⟩ : ∃ N : Nat, N = 2 * l.length + n := ⟨_, rfl⟩
      obtain ⟨T, hT⟩ : ∃ T : Nat, T + l.length = N + t := ⟨N + t - l.length, by omega⟩
      have hN' : (2 * (l.length : Int) + n) = N := by omega
      have hT' : ((N : Int) - (l.length - t)) = T := by omega
      simp (disch := omega) [go_sem, wrap64, hN', hT', Int.max_eq_left]
      refine ⟨by omega, by omega, by omega, by omega, by omega, by omega, ?_⟩
      refine ret_keep [[0], [25]] (.tup []) (by simp) (by simp [go_sem, resOf, leA]) ?_
      rw [List.take_take, List.take_take, Nat.min_self, Nat.min_self]
      refine ⟨_, T, [25], .inr rfl, ?_, by omega, ?_, ?_, held_wide l f t n T N h1 h2 hN hT⟩
      · simp [go_sem]; omega
      · simp; omega
      · right; constructor
        · omega
        · simp; omega
  · rintro x rs ⟨l', t', u, hu, rfl, r1, r2, r3, r4⟩
    refine ⟨[([0], [0]), ([0, 0], u)], ?_, by simp [go_sem], l', t', ?_, r1, r2, r3, r4⟩
    · rcases hu with rfl | rfl <;> rfl
    · rcases hu with rfl | rfl <;> simp [go_sem, gapR]
end Go.Proofs.Ytklhmamefbehjaa
