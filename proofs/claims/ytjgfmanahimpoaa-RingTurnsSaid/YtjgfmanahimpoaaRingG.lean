/- What the law's own functions do at rings, as contracts of the abstract machine. Conditions: as each law says. -/
import Derived.Test.YtjgfmanahimpoaaRingF
namespace Go.Proofs.Ytjgfmanahimpoaa
open Go.AM
set_option maxHeartbeats 1600000
set_option maxRecDepth 10000
structure Deed where
  kind : Int
  s : List Int
def deedP (d : Deed) : PV := .agg [.int .i64 d.kind, txt d.s]
def stepL (l : Txts) (d : Deed) : Txts := if d.kind = 0 then addL l d.s else if d.kind = 1 then joinL l d.s true else if d.kind = 2 then joinL l d.s false else l
def stepI (l : Txts) (k : Nat) (d : Deed) : Nat := if d.kind = 0 then 0 else if d.kind = 1 then 0 else if d.kind = 2 then 0 else turnI l k
/-- What holds of a ring all along. -/
structure Good (l : Txts) (k : Nat) : Prop where
  at_ : l = [] ∧ k = 0 ∨ k < l.length
  len : l.length ≤ 60
  txt : ∀ t ∈ l, t.length ≤ 100000
theorem Good.at' {l : Txts} {k : Nat} (h : Good l k) : l = [] ∨ k < l.length := h.at_.imp (·.1) id
theorem lP_one (l : Txts) : (lP l).one = true := by cases l <;> rfl
theorem lP_fits (l : Txts) : (lP l).fits = true := by cases l <;> rfl
theorem lP_cells (l : Txts) : (lP l).cells = [lP l] := by cases l <;> rfl
theorem does_cr (l : Txts) (k : Nat) (d : Deed) (h : Good l k) (hs : d.s.length ≤ 100000) : CR Try.prog 21 [] [.p (ringP l k), .p (deedP d)] [] (is (.p (ringP (stepL l d) (stepI l k d)))) := by
  refine CR_of_wp mixed 8 [] Try.func21 rfl (by kernel_rfl) rfl (by simp) (by simp) ?_
  have hx : ∀ (l' : Txts) (k' : Nat), is (.p (ringP l' k')) = is (.p (.agg [lP l', .int .i64 k'])) := fun _ _ => rfl
  rw [hx]
  simp (maxSteps := 1000000) (disch := omega) [go_sem, Try.f21, wrap64, ringP, deedP, txt, lP_one, lP_fits, lP_cells]
  refine ⟨rfl, condK_if (fun h1 => ?_) (fun h1 => ?_)⟩
  · simp (maxSteps := 1000000) (disch := omega) [go_sem, wrap64, lP_one, lP_fits, lP_cells, stepL, stepI, h1]
    refine ⟨⟨rfl, by simp [Try.f29]⟩, CallK_of [] (add_cr l k d.s h.len h.txt hs) (by simp [go_sem]) ⟨by simp [go_sem], by simp [go_sem, ringP, txt]⟩ (by simp [go_sem]) ?_⟩
    rintro y rs ⟨rfl, rfl⟩
    simp (maxSteps := 1000000) (disch := omega) [go_sem, wrap64, ringP, lP_one, lP_fits, lP_cells]
    exact ret_is _ rfl (by simp [go_sem, resOf, leA]) ⟨rfl, rfl⟩
  simp (maxSteps := 1000000) (disch := omega) [go_sem, wrap64]
  refine condK_if (fun h2 => ?_) (fun h2 => ?_)
  · simp (maxSteps := 1000000) (disch := omega) [go_sem, wrap64, lP_one, lP_fits, lP_cells, stepL, stepI, h1, h2]
    refine ⟨⟨rfl, by simp [Try.f46]⟩, CallK_of [] (join_cr l k d.s true h.len h.txt hs) (by simp [go_sem]) ⟨by simp [go_sem], by simp [go_sem, ringP, txt]⟩ (by simp [go_sem]) ?_⟩
    rintro y rs ⟨rfl, rfl⟩
    simp (maxSteps := 1000000) (disch := omega) [go_sem, wrap64, ringP, lP_one, lP_fits, lP_cells]
    exact ret_is _ rfl (by simp [go_sem, resOf, leA]) ⟨rfl, rfl⟩
  simp (maxSteps := 1000000) (disch := omega) [go_sem, wrap64]
  refine condK_if (fun h3 => ?_) (fun h3 => ?_)
  · simp (maxSteps := 1000000) (disch := omega) [go_sem, wrap64, lP_one, lP_fits, lP_cells, stepL, stepI, h1, h2, h3]
    refine ⟨⟨rfl, by simp [Try.f46]⟩, CallK_of [] (join_cr l k d.s false h.len h.txt hs) (by simp [go_sem]) ⟨by simp [go_sem], by simp [go_sem, ringP, txt]⟩ (by simp [go_sem]) ?_⟩
    rintro y rs ⟨rfl, rfl⟩
    simp (maxSteps := 1000000) (disch := omega) [go_sem, wrap64, ringP, lP_one, lP_fits, lP_cells]
    exact ret_is _ rfl (by simp [go_sem, resOf, leA]) ⟨rfl, rfl⟩
  · simp (maxSteps := 1000000) (disch := omega) [go_sem, wrap64, lP_one, lP_fits, lP_cells, stepL, stepI, h1, h2, h3]
    refine ⟨⟨rfl, by simp [Try.f28]⟩, CallK_of [] (turn_cr l k h.at' h.len) (by simp [go_sem]) ⟨by simp [go_sem], by simp [go_sem, ringP, txt]⟩ (by simp [go_sem]) ?_⟩
    rintro y rs ⟨rfl, rfl⟩
    simp (maxSteps := 1000000) (disch := omega) [go_sem, wrap64, ringP, lP_one, lP_fits, lP_cells]
    exact ret_is _ rfl (by simp [go_sem, resOf, leA]) ⟨rfl, rfl⟩
theorem means_cr (l : Txts) (k : Nat) (d : Deed) (h : Good l k) (hs : d.s.length ≤ 100000) : CR Try.prog 23 [] [.p (ringP l k), .p (deedP d)] [] (is (.p (ringP (stepL l d) (stepI l k d)))) := by
  refine CR_of_wp mixed 8 [] Try.func23 rfl (by kernel_rfl) rfl (by simp) (by simp) ?_
  have hx : ∀ (l' : Txts) (k' : Nat), is (.p (ringP l' k')) = is (.p (.agg [lP l', .int .i64 k'])) := fun _ _ => rfl
  rw [hx]
  simp (maxSteps := 1000000) (disch := omega) [go_sem, Try.f23, wrap64, ringP, deedP, txt, lP_one, lP_fits, lP_cells]
  refine ⟨rfl, condK_if (fun h1 => ?_) (fun h1 => ?_)⟩
  · simp (maxSteps := 1000000) (disch := omega) [go_sem, wrap64, lP_one, lP_fits, lP_cells, stepL, stepI, h1]
    refine ⟨⟨rfl, by simp [Try.f48]⟩, CallK_of [] (refadd_cr l k d.s h.len) (by simp [go_sem]) ⟨by simp [go_sem], by simp [go_sem, ringP, txt]⟩ (by simp [go_sem]) ?_⟩
    rintro y rs ⟨rfl, rfl⟩
    simp (maxSteps := 1000000) (disch := omega) [go_sem, wrap64, ringP, lP_one, lP_fits, lP_cells]
    exact ret_is _ rfl (by simp [go_sem, resOf, leA]) ⟨rfl, rfl⟩
  simp (maxSteps := 1000000) (disch := omega) [go_sem, wrap64]
  refine condK_if (fun h2 => ?_) (fun h2 => ?_)
  · simp (maxSteps := 1000000) (disch := omega) [go_sem, wrap64, lP_one, lP_fits, lP_cells, stepL, stepI, h1, h2]
    refine ⟨⟨rfl, by simp [Try.f49]⟩, CallK_of [] (refjoin_cr l k d.s true h.len h.txt hs) (by simp [go_sem]) ⟨by simp [go_sem], by simp [go_sem, ringP, txt]⟩ (by simp [go_sem]) ?_⟩
    rintro y rs ⟨rfl, rfl⟩
    simp (maxSteps := 1000000) (disch := omega) [go_sem, wrap64, ringP, lP_one, lP_fits, lP_cells]
    exact ret_is _ rfl (by simp [go_sem, resOf, leA]) ⟨rfl, rfl⟩
  simp (maxSteps := 1000000) (disch := omega) [go_sem, wrap64]
  refine condK_if (fun h3 => ?_) (fun h3 => ?_)
  · simp (maxSteps := 1000000) (disch := omega) [go_sem, wrap64, lP_one, lP_fits, lP_cells, stepL, stepI, h1, h2, h3]
    refine ⟨⟨rfl, by simp [Try.f49]⟩, CallK_of [] (refjoin_cr l k d.s false h.len h.txt hs) (by simp [go_sem]) ⟨by simp [go_sem], by simp [go_sem, ringP, txt]⟩ (by simp [go_sem]) ?_⟩
    rintro y rs ⟨rfl, rfl⟩
    simp (maxSteps := 1000000) (disch := omega) [go_sem, wrap64, ringP, lP_one, lP_fits, lP_cells]
    exact ret_is _ rfl (by simp [go_sem, resOf, leA]) ⟨rfl, rfl⟩
  · simp (maxSteps := 1000000) (disch := omega) [go_sem, wrap64, lP_one, lP_fits, lP_cells, stepL, stepI, h1, h2, h3]
    refine ⟨⟨rfl, by simp [Try.f50]⟩, CallK_of [] (refturn_cr l k h.at_ h.len) (by simp [go_sem]) ⟨by simp [go_sem], by simp [go_sem, ringP, txt]⟩ (by simp [go_sem]) ?_⟩
    rintro y rs ⟨rfl, rfl⟩
    simp (maxSteps := 1000000) (disch := omega) [go_sem, wrap64, ringP, lP_one, lP_fits, lP_cells]
    exact ret_is _ rfl (by simp [go_sem, resOf, leA]) ⟨rfl, rfl⟩
end Go.Proofs.Ytjgfmanahimpoaa
