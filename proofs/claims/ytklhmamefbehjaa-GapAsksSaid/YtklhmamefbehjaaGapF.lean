/- A part of the proof of this seat's statements, by an abstract machine: what each operation does to values, proved over the model, whatever the program. No condition beyond those that stand. -/
import Derived.Test.YtklhmamefbehjaaGapE
namespace Go.Proofs.Ytklhmamefbehjaa
open Go.AM
set_option maxHeartbeats 400000
set_option maxRecDepth 10000
def allR (l : List Int) (f t : Nat) : AV → List (Tok × List AV) → Prop := fun x rs => rs = gapR l f t ∧ x = .p (ints (held l f t))
theorem all_cr (l : List Int) (f t : Nat) (h1 : f ≤ t) (h2 : t ≤ l.length) (h3 : (l.length : Int) ≤ 4398046511104) : CR Try.prog 10 gapT [.lp [0] 0] (gapR l f t) (allR l f t) := by
  refine CR_of_wp mixed 3 [] Try.func10 rfl (by kernel_rfl) rfl (by simp) (by simp) ?_
  simp (disch := omega) [go_sem, Try.f10, gapR, gapT, wrap64]
  refine ⟨⟨rfl, by simp [Try.f8]⟩, ?_⟩
  refine CallK_of [([0], [0]), ([0, 0], [0, 0])] (len_cr l f t h1 h2 (by omega)) (by simp [go_sem, gapT]) ⟨by simp [go_sem], by simp [go_sem]⟩ (by simp [go_sem, gapR]) ?_
  rintro x rs ⟨rfl, rfl⟩
  have hl := held_length l f t h1 h2
  simp (disch := omega) [go_sem, gapR, gapT, wrap64]
  refine ⟨⟨rfl, by simp [Try.f13]⟩, ?_⟩
  refine CallK_of [([0], [0]), ([0, 0], [0, 0])] (slice_cr l f t 0 (l.length - (t - f)) h1 h2 h3) (by simp [go_sem, gapT]) ⟨by simp [go_sem], by simp [go_sem]⟩ (by simp [go_sem, gapR]) ?_
  rintro x rs ⟨rfl, rfl⟩
  simp (disch := omega) [go_sem, gapR, gapT, wrap64, ints]
  refine ret_keep gapT (.p (ints (sliced (held l f t) 0 (l.length - (t - f))))) (by simp [gapT]) (by simp [go_sem, resOf, leA, ints]) ⟨by simp [go_sem, gapT, gapR], ?_⟩
  have e : sliced (held l f t) 0 ((l.length : Int) - (t - f)) = held l f t := by
    unfold sliced
    have : ((l.length : Int) - (t - f)).toNat = (held l f t).length := by omega
    rw [this]; simp
  rw [e]
end Go.Proofs.Ytklhmamefbehjaa
