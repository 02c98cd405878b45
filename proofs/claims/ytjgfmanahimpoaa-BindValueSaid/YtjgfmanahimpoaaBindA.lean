/- A part of the proof of this seat's statements, by an abstract machine: what each operation does to values, proved over the model, whatever the program. No condition beyond those that stand. -/
import Derived.Test.YtjgfmanahimpoaaTy
import Derived.Test.YtjgfmanahimpoaaAmT
namespace Go.Proofs.Ytjgfmanahimpoaa
open Go.AM
set_option maxHeartbeats 400000
set_option maxRecDepth 10000
/-- A function that tells this. -/
def is (x : AV) : AV → List (Tok × List AV) → Prop := fun y rs => rs = [] ∧ y = x
structure Stroke where
  p : Bool
  k : Int
  r : Int
  m : Bool
  deriving DecidableEq
def strokeP (s : Stroke) : PV := .agg [.bool s.p, .int .i64 s.k, .int .i32 s.r, .bool s.m]
def namedL (r : Int) : Int := if r = 1 then 22 else if r = 2 then 23 else if r = 3 then 3 else if r = 4 then 4 else if r = 5 then 7 else if r = 6 then 8 else if r = 8 then 9 else 0
theorem named_cr (r : Int) : CR Try.prog 32 [] [.p (.int .i32 r)] [] (is (.p (.int .i64 (namedL r)))) := by
  refine CR_of_wp mixed 5 [] Try.func32 rfl (by kernel_rfl) rfl (by simp) (by simp) ?_
  simp [go_sem, Try.f32]
  repeat' first
    | (refine condK_if (fun h => ?_) (fun h => ?_))
    | (exact ret_is (.p (.int .i64 (namedL r))) rfl (by simp [go_sem, resOf, leA, namedL, *]) ⟨rfl, rfl⟩)
    | (simp [go_sem])
def metaL (r : Int) : Int := if 48 ≤ r ∧ r ≤ 57 then 29 else if r = 45 then 30 else if r = 98 then 6 else if r = 102 then 5 else if r = 100 then 11 else if r = 119 then 16 else if r = 121 then 20 else 0
theorem meta_cr (r : Int) : CR Try.prog 34 [] [.p (.int .i32 r)] [] (is (.p (.int .i64 (metaL r)))) := by
  refine CR_of_wp mixed 14 [] Try.func34 rfl (by kernel_rfl) rfl (by simp) (by simp) ?_
  simp [go_sem, Try.f34]
  refine condK_split (fun h => ?_) (fun h => ?_)
  · have h' : 48 ≤ r ∧ r ≤ 57 := by simpa using h
    simp [go_sem]
    exact ret_is (.p (.int .i64 (metaL r))) rfl (by simp [go_sem, resOf, leA, metaL, h']) ⟨rfl, rfl⟩
  · have h' : ¬ (48 ≤ r ∧ r ≤ 57) := by intro e; simp [e] at h
    simp [go_sem]
    repeat' first
      | (refine condK_if (fun h => ?_) (fun h => ?_))
      | (exact ret_is (.p (.int .i64 (metaL r))) rfl (by simp [go_sem, resOf, leA, metaL, *]) ⟨rfl, rfl⟩)
      | (simp [go_sem])
def eqS (s : Stroke) (p : Bool) (k r : Int) (m : Bool) : Bool := (s.p == p) && (decide (s.k = k) && (decide (s.r = r) && (s.m == m)))
def behindL (s : Stroke) : Int := if eqS s true 2 24 false then 18 else if eqS s true 2 21 false then 21 else if eqS s true 1 117 false then 21 else if eqS s true 2 7 false then 26 else 0
theorem behind_cr (s : Stroke) : CR Try.prog 31 [] [.p (strokeP s)] [] (is (.p (.int .i64 (behindL s)))) := by
  refine CR_of_wp mixed 13 [] Try.func31 rfl (by kernel_rfl) rfl (by simp) (by simp) ?_
  simp [go_sem, Try.f31, strokeP]
  refine condK_split (fun h => ?_) (fun h => ?_)
  · simp [go_sem]
    exact ret_is (.p (.int .i64 (behindL s))) rfl (by simp [go_sem, resOf, leA, behindL, eqS, h]) ⟨rfl, rfl⟩
  · simp [go_sem]
    refine condK_split (fun h2 => ?_) (fun h2 => ?_)
    · simp [go_sem, h2]
      exact ret_is (.p (.int .i64 (behindL s))) rfl (by simp [go_sem, resOf, leA, behindL, eqS, h, h2]) ⟨rfl, rfl⟩
    · simp [go_sem, h2]
      refine condK_split (fun h3 => ?_) (fun h3 => ?_)
      · simp [go_sem]
        exact ret_is (.p (.int .i64 (behindL s))) rfl (by simp [go_sem, resOf, leA, behindL, eqS, h, h2, h3]) ⟨rfl, rfl⟩
      · simp [go_sem]
        refine condK_split (fun h4 => ?_) (fun h4 => ?_)
        · simp [go_sem]
          exact ret_is (.p (.int .i64 (behindL s))) rfl (by simp [go_sem, resOf, leA, behindL, eqS, h, h2, h3, h4]) ⟨rfl, rfl⟩
        · simp [go_sem]
          exact ret_is (.p (.int .i64 (behindL s))) rfl (by simp [go_sem, resOf, leA, behindL, eqS, h, h2, h3, h4]) ⟨rfl, rfl⟩
end Go.Proofs.Ytjgfmanahimpoaa
