/- What the document's grid's functions do, as contracts of the abstract machine. Conditions: as each law says. -/
import Derived.Test.YtjgfmanahimpoaaAmW
import Derived.Test.YtjgfmanahimpoaaTy
namespace Go.Proofs.Ytjgfmanahimpoaa
open Go.AM
set_option maxHeartbeats 800000
set_option maxRecDepth 10000
def is (x : AV) : AV → List (Tok × List AV) → Prop := fun y rs => rs = [] ∧ y = x
/-- A cell: its text's bytes, its width. -/
structure Cl where
  t : List UInt8
  w : Int
  deriving DecidableEq, Inhabited
def blk : Cl := ⟨[32], 1⟩
def clP (c : Cl) : PV := .agg [.str c.t, .int .i64 c.w]
abbrev Row := List Cl
/-- A row's cells, where they stand. -/
def cw : Row → List AV
  | [] => []
  | c :: l => .p (.str c.t) :: .p (.int .i64 c.w) :: cw l
theorem cw_len (l : Row) : (cw l).length = 2 * l.length := by
  induction l with
  | nil => rfl
  | cons c l ih => simp only [cw, List.length_cons, ih]; omega
theorem cw_app (l m : Row) : cw (l ++ m) = cw l ++ cw m := by
  induction l with
  | nil => rfl
  | cons c l ih => simp only [List.cons_append, cw, ih]
theorem cw_ren (f : Tok → Option Tok) (l : Row) : List.map (AV.ren f) (cw l) = cw l := by
  induction l with
  | nil => rfl
  | cons c l ih => simp only [cw, List.map_cons, ih]; rfl
theorem cw_upd (rt tt : Tok → Bool) (l : Row) : List.map (AV.upd (fil rt tt)) (cw l) = cw l := by
  induction l with
  | nil => rfl
  | cons c l ih => simp only [cw, List.map_cons, ih]; rfl
theorem blank_cr : CR Try.prog 57 [] [] [] (is (.p (clP blk))) := by
  refine CR_of_wp mixed 1 [] Try.func57 rfl (by kernel_rfl) rfl (by simp) (by simp) ?_
  simp (maxSteps := 1000000) (disch := omega) [go_sem, Try.f57]
  exact ret_is _ rfl (by simp [go_sem, resOf, leA, clP, blk]) ⟨rfl, rfl⟩
/-- The roots of so many rows. -/
def mroots : Nat → List AV → List (Tok × List AV)
  | 0, _ => []
  | r + 1, l => ([100 + r], l) :: mroots r l
/-- So many blank cells. -/
def bl (c : Nat) : List AV := cw (List.replicate c blk)
theorem bl_zero : bl 0 = [] := rfl
theorem bl_succ (c : Nat) : bl (c + 1) = bl c ++ [.p (.str [32]), .p (.int .i64 1)] := by
  rw [bl, List.replicate_succ', cw_app]; rfl
theorem bl_len (c : Nat) : (bl c).length = 2 * c := by rw [bl, cw_len, List.length_replicate]
theorem bl_ren (f : Tok → Option Tok) (c : Nat) : List.map (AV.ren f) (bl c) = bl c := cw_ren _ _
theorem bl_upd (rt tt : Tok → Bool) (c : Nat) : List.map (AV.upd (fil rt tt)) (bl c) = bl c := cw_upd _ _ _
/-- The rows, as the grid holds them. -/
def mla (C : Nat) : Nat → Nat → List AV
  | _, 0 => []
  | k, n + 1 => .la [100 + k] 2 0 C :: mla C (k + 1) n
def newRs (C r : Nat) : List (Tok × List AV) := match r with
  | 0 => []
  | r + 1 => ([40], mla C 0 (r + 1)) :: mroots (r + 1) (bl C)
def outA (r : Nat) : AV := match r with
  | 0 => .p (.opq (.slice none 0 0))
  | r + 1 => .la [40] 1 0 (r + 1)
def rowA (c : Nat) : AV := match c with
  | 0 => .p (.opq (.slice none 0 0))
  | c + 1 => .la [36] 2 0 (c + 1)
def rowRs (c : Nat) : List (Tok × List AV) := match c with
  | 0 => []
  | c + 1 => [([36], bl (c + 1))]
def outerS (R C r : Nat) : St := { n := 42, nv := 9, vs := [(0, .p (.int .i64 R)), (1, .p (.int .i64 C)), (5, outA r), (6, .p (.int .i64 r))], ts := [], rs := newRs C r, rm := [5, 7, 36, 40] }
def innerS (R C r c : Nat) : St := { n := 42, nv := 9, vs := [(0, .p (.int .i64 R)), (1, .p (.int .i64 C)), (5, outA r), (6, .p (.int .i64 r)), (7, rowA c), (8, .p (.int .i64 c))], ts := [], rs := rowRs c ++ newRs C r, rm := [5, 7, 36, 40] }
theorem new_cr (R C : Nat) (hR : 1 ≤ R ∧ R ≤ 4) (hC : 2 ≤ C ∧ C ≤ 1000) : CR Try.prog 37 [] [.p (.int .i64 R), .p (.int .i64 C)] []
    (fun x rs' => x = .la [40] 1 0 R ∧ rs' = ([40], mla C 0 R) :: mroots R (bl C)) := by
  refine CR_of_wpM [] mixed 9 [] Try.func37 rfl (by kernel_rfl) [5, 7, 36, 40] rfl (by simp) (by simp) ?_
  have a1 : ¬ ((R : Int) < 1) := by omega
  have a2 : ¬ ((500 : Int) < R) := by omega
  have a3 : ¬ ((C : Int) < 2) := by omega
  have a4 : ¬ ((1000 : Int) < C) := by omega
  simp (maxSteps := 1000000) (disch := omega) [go_sem, Try.f37, a1, a2, a3, a4]
  refine wpA_loop (fun r : Nat => r ≤ R) (fun r => outerS R C r) (fun r => R - r) 0 (by simp) (by simp [go_sem, LeS, leV, leR, leA, outerS, newRs, outA]) ?_
  intro r hr
  rcases r with _ | _ | _ | _ | _ | r
  · simp (maxSteps := 1000000) (disch := omega) [go_sem, outerS, newRs, outA, mroots, mla]
    refine condK_if (fun h1 => ?_) (fun h1 => by omega)
    · simp (maxSteps := 1000000) (disch := omega) [go_sem]
      refine wpA_loop (fun c : Nat => c ≤ C) (fun c => innerS R C 0 c) (fun c => C - c) 0 (by simp) (by simp [go_sem, LeS, leV, leR, leA, innerS, newRs, outA, rowA, rowRs]) ?_
      intro c hc
      rcases c with _ | c
      · simp (maxSteps := 1000000) (disch := omega) [go_sem, innerS, newRs, outA, rowA, rowRs, bl_succ]
        refine condK_if (fun h2 => ?_) (fun h2 => by omega)
        simp (maxSteps := 1000000) (disch := omega) [go_sem]
        refine ⟨⟨rfl, by simp [Try.f57]⟩, CallK_of [] blank_cr (by simp [go_sem]) ⟨by simp [go_sem], by simp [go_sem]⟩ (by simp [go_sem]) ?_⟩
        rintro y rs ⟨rfl, rfl⟩
        simp (maxSteps := 1000000) (disch := omega) [go_sem, wrap64, clP, blk]
        refine LoopK_next 1 (by omega) (by simp [go_sem, LeS, leV, leR, leA, leL_refl, bl_zero]) (by omega)
      · simp (maxSteps := 1000000) (disch := omega) [go_sem, innerS, newRs, outA, rowA, rowRs, bl_succ]
        refine condK_if (fun h2 => ?_) (fun h2 => ?_)
        · simp (maxSteps := 1000000) (disch := omega) [go_sem]
          refine ⟨⟨rfl, by simp [Try.f57]⟩, CallK_of [] blank_cr (by simp [go_sem]) ⟨by simp [go_sem], by simp [go_sem]⟩ (by simp [go_sem]) ?_⟩
          rintro y rs ⟨rfl, rfl⟩
          simp (maxSteps := 1000000) (disch := omega) [go_sem, wrap64, clP, blk, bl_upd, bl_len]
          refine ⟨⟨by omega, by omega⟩, ?_⟩
          refine LoopK_next (c + 1 + 1) (by omega) (by simp [go_sem, LeS, leV, leR, leA, leL_refl, bl_upd, bl_succ]) (by omega)
        · obtain rfl : C = c + 1 := by omega
          simp (maxSteps := 1000000) (disch := omega) [go_sem, wrap64, bl_upd, bl_succ]
          refine ⟨rfl, ?_⟩
          refine LoopK_nextR 1 [([100], [36]), ([40], [40])] (by omega) (by simp [go_sem, LeS, leV, leR, leA, leL, leL_refl, mroots, mla, bl_upd, bl_ren]) (by omega)
  · simp (maxSteps := 1000000) (disch := omega) [go_sem, outerS, newRs, outA, mroots, mla]
    refine condK_if (fun h1 => ?_) (fun h1 => ?_)
    · simp (maxSteps := 1000000) (disch := omega) [go_sem]
      refine wpA_loop (fun c : Nat => c ≤ C) (fun c => innerS R C 1 c) (fun c => C - c) 0 (by simp) (by simp [go_sem, LeS, leV, leR, leA, leL, leL_refl, innerS, newRs, outA, rowA, rowRs, mroots, mla, bl_upd]) ?_
      intro c hc
      rcases c with _ | c
      · simp (maxSteps := 1000000) (disch := omega) [go_sem, innerS, newRs, outA, rowA, rowRs, mroots, mla, bl_succ]
        refine condK_if (fun h2 => ?_) (fun h2 => by omega)
        simp (maxSteps := 1000000) (disch := omega) [go_sem]
        refine ⟨⟨rfl, by simp [Try.f57]⟩, CallK_of [] blank_cr (by simp [go_sem]) ⟨by simp [go_sem], by simp [go_sem]⟩ (by simp [go_sem]) ?_⟩
        rintro y rs ⟨rfl, rfl⟩
        simp (maxSteps := 1000000) (disch := omega) [go_sem, wrap64, clP, blk, bl_upd]
        refine LoopK_next 1 (by omega) (by simp [go_sem, LeS, leV, leR, leA, leL, leL_refl, bl_upd, bl_zero]) (by omega)
      · simp (maxSteps := 1000000) (disch := omega) [go_sem, innerS, newRs, outA, rowA, rowRs, mroots, mla, bl_succ]
        refine condK_if (fun h2 => ?_) (fun h2 => ?_)
        · simp (maxSteps := 1000000) (disch := omega) [go_sem]
          refine ⟨⟨rfl, by simp [Try.f57]⟩, CallK_of [] blank_cr (by simp [go_sem]) ⟨by simp [go_sem], by simp [go_sem]⟩ (by simp [go_sem]) ?_⟩
          rintro y rs ⟨rfl, rfl⟩
          simp (maxSteps := 1000000) (disch := omega) [go_sem, wrap64, clP, blk, bl_upd, bl_len]
          refine ⟨⟨by omega, by omega⟩, ?_⟩
          refine LoopK_next (c + 1 + 1) (by omega) (by simp [go_sem, LeS, leV, leR, leA, leL, leL_refl, bl_upd, bl_succ]) (by omega)
        · obtain rfl : C = c + 1 := by omega
          simp (maxSteps := 1000000) (disch := omega) [go_sem, wrap64, bl_upd, bl_succ]
          refine ⟨rfl, ?_⟩
          refine LoopK_nextR 2 [([101], [36]), ([40], [40]), ([100], [100])] (by omega) (by simp [go_sem, LeS, leV, leR, leA, leL, leL_refl, mroots, mla, bl_upd, bl_ren]) (by omega)
    · obtain rfl : R = 1 := by omega
      simp (maxSteps := 1000000) (disch := omega) [go_sem, mroots, mla]
      exact ret_keep [[40], [100]] _ (by simp) (by simp [go_sem, resOf, leA]) ⟨rfl, by simp [go_sem, bl_upd]⟩
  · simp (maxSteps := 1000000) (disch := omega) [go_sem, outerS, newRs, outA, mroots, mla]
    refine condK_if (fun h1 => ?_) (fun h1 => ?_)
    · simp (maxSteps := 1000000) (disch := omega) [go_sem]
      refine wpA_loop (fun c : Nat => c ≤ C) (fun c => innerS R C 2 c) (fun c => C - c) 0 (by simp) (by simp [go_sem, LeS, leV, leR, leA, leL, leL_refl, innerS, newRs, outA, rowA, rowRs, mroots, mla, bl_upd]) ?_
      intro c hc
      rcases c with _ | c
      · simp (maxSteps := 1000000) (disch := omega) [go_sem, innerS, newRs, outA, rowA, rowRs, mroots, mla, bl_succ]
        refine condK_if (fun h2 => ?_) (fun h2 => by omega)
        simp (maxSteps := 1000000) (disch := omega) [go_sem]
        refine ⟨⟨rfl, by simp [Try.f57]⟩, CallK_of [] blank_cr (by simp [go_sem]) ⟨by simp [go_sem], by simp [go_sem]⟩ (by simp [go_sem]) ?_⟩
        rintro y rs ⟨rfl, rfl⟩
        simp (maxSteps := 1000000) (disch := omega) [go_sem, wrap64, clP, blk, bl_upd]
        refine LoopK_next 1 (by omega) (by simp [go_sem, LeS, leV, leR, leA, leL, leL_refl, bl_upd, bl_zero]) (by omega)
      · simp (maxSteps := 1000000) (disch := omega) [go_sem, innerS, newRs, outA, rowA, rowRs, mroots, mla, bl_succ]
        refine condK_if (fun h2 => ?_) (fun h2 => ?_)
        · simp (maxSteps := 1000000) (disch := omega) [go_sem]
          refine ⟨⟨rfl, by simp [Try.f57]⟩, CallK_of [] blank_cr (by simp [go_sem]) ⟨by simp [go_sem], by simp [go_sem]⟩ (by simp [go_sem]) ?_⟩
          rintro y rs ⟨rfl, rfl⟩
          simp (maxSteps := 1000000) (disch := omega) [go_sem, wrap64, clP, blk, bl_upd, bl_len]
          refine ⟨⟨by omega, by omega⟩, ?_⟩
          refine LoopK_next (c + 1 + 1) (by omega) (by simp [go_sem, LeS, leV, leR, leA, leL, leL_refl, bl_upd, bl_succ]) (by omega)
        · obtain rfl : C = c + 1 := by omega
          simp (maxSteps := 1000000) (disch := omega) [go_sem, wrap64, bl_upd, bl_succ]
          refine ⟨rfl, ?_⟩
          refine LoopK_nextR 3 [([102], [36]), ([40], [40]), ([100], [100]), ([101], [101])] (by omega) (by simp [go_sem, LeS, leV, leR, leA, leL, leL_refl, mroots, mla, bl_upd, bl_ren]) (by omega)
    · obtain rfl : R = 2 := by omega
      simp (maxSteps := 1000000) (disch := omega) [go_sem, mroots, mla]
      exact ret_keep [[40], [100], [101]] _ (by simp) (by simp [go_sem, resOf, leA]) ⟨rfl, by simp [go_sem, bl_upd]⟩
  · simp (maxSteps := 1000000) (disch := omega) [go_sem, outerS, newRs, outA, mroots, mla]
    refine condK_if (fun h1 => ?_) (fun h1 => ?_)
    · simp (maxSteps := 1000000) (disch := omega) [go_sem]
      refine wpA_loop (fun c : Nat => c ≤ C) (fun c => innerS R C 3 c) (fun c => C - c) 0 (by simp) (by simp [go_sem, LeS, leV, leR, leA, leL, leL_refl, innerS, newRs, outA, rowA, rowRs, mroots, mla, bl_upd]) ?_
      intro c hc
      rcases c with _ | c
      · simp (maxSteps := 1000000) (disch := omega) [go_sem, innerS, newRs, outA, rowA, rowRs, mroots, mla, bl_succ]
        refine condK_if (fun h2 => ?_) (fun h2 => by omega)
        simp (maxSteps := 1000000) (disch := omega) [go_sem]
        refine ⟨⟨rfl, by simp [Try.f57]⟩, CallK_of [] blank_cr (by simp [go_sem]) ⟨by simp [go_sem], by simp [go_sem]⟩ (by simp [go_sem]) ?_⟩
        rintro y rs ⟨rfl, rfl⟩
        simp (maxSteps := 1000000) (disch := omega) [go_sem, wrap64, clP, blk, bl_upd]
        refine LoopK_next 1 (by omega) (by simp [go_sem, LeS, leV, leR, leA, leL, leL_refl, bl_upd, bl_zero]) (by omega)
      · simp (maxSteps := 1000000) (disch := omega) [go_sem, innerS, newRs, outA, rowA, rowRs, mroots, mla, bl_succ]
        refine condK_if (fun h2 => ?_) (fun h2 => ?_)
        · simp (maxSteps := 1000000) (disch := omega) [go_sem]
          refine ⟨⟨rfl, by simp [Try.f57]⟩, CallK_of [] blank_cr (by simp [go_sem]) ⟨by simp [go_sem], by simp [go_sem]⟩ (by simp [go_sem]) ?_⟩
          rintro y rs ⟨rfl, rfl⟩
          simp (maxSteps := 1000000) (disch := omega) [go_sem, wrap64, clP, blk, bl_upd, bl_len]
          refine ⟨⟨by omega, by omega⟩, ?_⟩
          refine LoopK_next (c + 1 + 1) (by omega) (by simp [go_sem, LeS, leV, leR, leA, leL, leL_refl, bl_upd, bl_succ]) (by omega)
        · obtain rfl : C = c + 1 := by omega
          simp (maxSteps := 1000000) (disch := omega) [go_sem, wrap64, bl_upd, bl_succ]
          refine ⟨rfl, ?_⟩
          refine LoopK_nextR 4 [([103], [36]), ([40], [40]), ([100], [100]), ([101], [101]), ([102], [102])] (by omega) (by simp [go_sem, LeS, leV, leR, leA, leL, leL_refl, mroots, mla, bl_upd, bl_ren]) (by omega)
    · obtain rfl : R = 3 := by omega
      simp (maxSteps := 1000000) (disch := omega) [go_sem, mroots, mla]
      exact ret_keep [[40], [100], [101], [102]] _ (by simp) (by simp [go_sem, resOf, leA]) ⟨rfl, by simp [go_sem, bl_upd]⟩
  · simp (maxSteps := 1000000) (disch := omega) [go_sem, outerS, newRs, outA, mroots, mla]
    obtain rfl : R = 4 := by omega
    simp (maxSteps := 1000000) (disch := omega) [go_sem, mroots, mla]
    exact ret_keep [[40], [100], [101], [102], [103]] _ (by simp) (by simp [go_sem, resOf, leA]) ⟨rfl, by simp [go_sem, bl_upd]⟩
  · omega
end Go.Proofs.Ytjgfmanahimpoaa
