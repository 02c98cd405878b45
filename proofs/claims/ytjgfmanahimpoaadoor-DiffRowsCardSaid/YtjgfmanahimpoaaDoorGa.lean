/- What the document's grid's functions do, as contracts of the abstract machine. Conditions: as each law says. -/
import Derived.Test.YtjgfmanahimpoaaDoorAmW
import Derived.Test.YtjgfmanahimpoaaDoorA
namespace Go.Proofs.YtjgfmanahimpoaaDoor
open Go.AM
set_option maxHeartbeats 1600000
set_option maxRecDepth 10000
/-- A cell: its text's bytes, its width. -/
structure Cl where
  t : List UInt8
  w : Int
  deriving DecidableEq, Inhabited
def blk : Cl := ⟨[32], 1⟩
def clP (c : Cl) : PV := .agg [.str c.t, .int .i64 c.w]
abbrev Row := List Cl
/-- A row's cells, where they stand. -/
def cw : Row → List AV
  | [] => []
  | c :: l => .p (.str c.t) :: .p (.int .i64 c.w) :: cw l
theorem cw_len (l : Row) : (cw l).length = 2 * l.length := by
  induction l with
  | nil => rfl
  | cons c l ih => simp only [cw, List.length_cons, ih]; omega
theorem cw_app (l m : Row) : cw (l ++ m) = cw l ++ cw m := by
  induction l with
  | nil => rfl
  | cons c l ih => simp only [List.cons_append, cw, ih]
theorem cw_ren (f : Tok → Option Tok) (l : Row) : List.map (AV.ren f) (cw l) = cw l := by
  induction l with
  | nil => rfl
  | cons c l ih => simp only [cw, List.map_cons, ih]; rfl
theorem cw_upd (rt tt : Tok → Bool) (l : Row) : List.map (AV.upd (fil rt tt)) (cw l) = cw l := by
  induction l with
  | nil => rfl
  | cons c l ih => simp only [cw, List.map_cons, ih]; rfl
theorem blank_cr : CR Tryd.prog 46 [] [] [] (is (.p (clP blk))) := by
  refine CR_of_wp mixed 1 [] Tryd.func46 rfl (by kernel_rfl) rfl (by simp) (by simp) ?_
  simp (maxSteps := 1000000) (disch := omega) [go_sem, Tryd.f46]
  exact ret_is _ rfl (by simp [go_sem, resOf, leA, clP, blk]) ⟨rfl, rfl⟩
/-- The roots of so many rows. -/
def mroots : Nat → List AV → List (Tok × List AV)
  | 0, _ => []
  | r + 1, l => ([100 + r], l) :: mroots r l
/-- So many blank cells. -/
def bl (c : Nat) : List AV := cw (List.replicate c blk)
theorem bl_zero : bl 0 = [] := rfl
theorem bl_succ (c : Nat) : bl (c + 1) = bl c ++ [.p (.str [32]), .p (.int .i64 1)] := by
  rw [bl, List.replicate_succ', cw_app]; rfl
theorem bl_len (c : Nat) : (bl c).length = 2 * c := by rw [bl, cw_len, List.length_replicate]
theorem bl_ren (f : Tok → Option Tok) (c : Nat) : List.map (AV.ren f) (bl c) = bl c := cw_ren _ _
theorem bl_upd (rt tt : Tok → Bool) (c : Nat) : List.map (AV.upd (fil rt tt)) (bl c) = bl c := cw_upd _ _ _
/-- The rows, as the grid holds them. -/
def mla (C : Nat) : Nat → Nat → List AV
  | _, 0 => []
  | k, n + 1 => .la [100 + k] 2 0 C :: mla C (k + 1) n
def newRs (C r : Nat) : List (Tok × List AV) := match r with
  | 0 => []
  | r + 1 => ([40], mla C 0 (r + 1)) :: mroots (r + 1) (bl C)
def outA (r : Nat) : AV := match r with
  | 0 => .p (.opq (.slice none 0 0))
  | r + 1 => .la [40] 1 0 (r + 1)
def rowA (c : Nat) : AV := match c with
  | 0 => .p (.opq (.slice none 0 0))
  | c + 1 => .la [36] 2 0 (c + 1)
def rowRs (c : Nat) : List (Tok × List AV) := match c with
  | 0 => []
  | c + 1 => [([36], bl (c + 1))]
def outerS (R C r : Nat) : St := { n := 42, nv := 9, vs := [(0, .p (.int .i64 R)), (1, .p (.int .i64 C)), (5, outA r), (6, .p (.int .i64 r))], ts := [], rs := newRs C r, rm := [5, 7, 36, 40] }
def innerS (R C r c : Nat) : St := { n := 42, nv := 9, vs := [(0, .p (.int .i64 R)), (1, .p (.int .i64 C)), (5, outA r), (6, .p (.int .i64 r)), (7, rowA c), (8, .p (.int .i64 c))], ts := [], rs := rowRs c ++ newRs C r, rm := [5, 7, 36, 40] }
theorem new_cr (R C : Nat) (hR : 1 ≤ R ∧ R ≤ 4) (hC : 2 ≤ C ∧ C ≤ 1000) : CR Tryd.prog 33 [] [.p (.int .i64 R), .p (.int .i64 C)] []
    (fun x rs' => x = .la [40] 1 0 R ∧ rs' = ([40], mla C 0 R) :: mroots R (bl C)) := by
  refine CR_of_wpM [] mixed 9 [] Tryd.func33 rfl (by kernel_rfl) [5, 7, 36, 40] rfl (by simp) (by simp) ?_
  have a1 : ¬ ((R : Int) < 1) := by omega
  have a2 : ¬ ((500 : Int) < R) := by omega
  have a3 : ¬ ((C : Int) < 2) := by omega
  have a4 : ¬ ((1000 : Int) < C) := by omega
  simp (maxSteps := 1000000) (disch := omega) [go_sem, Tryd.f33, a1, a2, a3, a4]
  refine wpA_loop (fun r : Nat => r ≤ R) (fun r => outerS R C r) (fun r => R - r) 0 (by simp) (by simp [go_sem, LeS, leV, leR, leA, outerS, newRs, outA]) ?_
  intro r hr
  rcases r with _ | _ | _ | _ | _ | r
  · simp (maxSteps := 1000000) (disch := omega) [go_sem, outerS, newRs, outA, mroots, mla]
    refine condK_if (fun h1 => ?_) (fun h1 => by omega)
    · simp (maxSteps := 1000000) (disch := omega) [go_sem]
      refine wpA_loop (fun c : Nat => c ≤ C) (fun c => innerS R C 0 c) (fun c => C - c) 0 (by simp) (by simp [go_sem, LeS, leV, leR, leA, innerS, newRs, outA, rowA, rowRs]) ?_
      intro c hc
      rcases c with _ | c
      · simp (maxSteps := 1000000) (disch := omega) [go_sem, innerS, newRs, outA, rowA, rowRs, bl_succ]
        refine condK_if (fun h2 => ?_) (fun h2 => by omega)
        simp (maxSteps := 1000000) (disch := omega) [go_sem]
        refine ⟨⟨rfl, by simp [Tryd.f46]⟩, CallK_of [] blank_cr (by simp [go_sem]) ⟨by simp [go_sem], by simp [go_sem]⟩ (by simp [go_sem]) ?_⟩
        rintro y rs ⟨rfl, rfl⟩
        simp (maxSteps := 1000000) (disch := omega) [go_sem, wrap64, clP, blk]
        refine LoopK_next 1 (by omega) (by simp [go_sem, LeS, leV, leR, leA, leL_refl, bl_zero]) (by omega)
      · simp (maxSteps := 1000000) (disch := omega) [go_sem, innerS, newRs, outA, rowA, rowRs, bl_succ]
        refine condK_if (fun h2 => ?_) (fun h2 => ?_)
        · simp (maxSteps := 1000000) (disch := omega) [go_sem]
          refine ⟨⟨rfl, by simp [Tryd.f46]⟩, CallK_of [] blank_cr (by simp [go_sem]) ⟨by simp [go_sem], by simp [go_sem]⟩ (by simp [go_sem]) ?_⟩
          rintro y rs ⟨rfl, rfl⟩
          simp (maxSteps := 1000000) (disch := omega) [go_sem, wrap64, clP, blk, bl_upd, bl_len]
          refine ⟨⟨by omega, by omega⟩, ?_⟩
          refine LoopK_next (c + 1 + 1) (by omega) (by simp [go_sem, LeS, leV, leR, leA, leL_refl, bl_upd, bl_succ]) (by omega)
        · obtain rfl : C = c + 1 := by omega
          simp (maxSteps := 1000000) (disch := omega) [go_sem, wrap64, bl_upd, bl_succ]
          refine ⟨rfl, ?_⟩
          refine LoopK_nextR 1 [([100], [36]), ([40], [40])] (by omega) (by simp [go_sem, LeS, leV, leR, leA, leL, leL_refl, mroots, mla, bl_upd, bl_ren]) (by omega)
  · simp (maxSteps := 1000000) (disch := omega) [go_sem, outerS, newRs, outA, mroots, mla]
    refine condK_if (fun h1 => ?_) (fun h1 => ?_)
    · simp (maxSteps := 1000000) (disch := omega) [go_sem]
      refine wpA_loop (fun c : Nat => c ≤ C) (fun c => innerS R C 1 c) (fun c => C - c) 0 (by simp) (by simp [go_sem, LeS, leV, leR, leA, leL, leL_refl, innerS, newRs, outA, rowA, rowRs, mroots, mla, bl_upd]) ?_
      intro c hc
      rcases c with _ | c
      · simp (maxSteps := 1000000) (disch := omega) [go_sem, innerS, newRs, outA, rowA, rowRs, mroots, mla, bl_succ]
        refine condK_if (fun h2 => ?_) (fun h2 => by omega)
        simp (maxSteps := 1000000) (disch := omega) [go_sem]
        refine ⟨⟨rfl, by simp [Tryd.f46]⟩, CallK_of [] blank_cr (by simp [go_sem]) ⟨by simp [go_sem], by simp [go_sem]⟩ (by simp [go_sem]) ?_⟩
        rintro y rs ⟨rfl, rfl⟩
        simp (maxSteps := 1000000) (disch := omega) [go_sem, wrap64, clP, blk, bl_upd]
        refine LoopK_next 1 (by omega) (by simp [go_sem, LeS, leV, leR, leA, leL, leL_refl, bl_upd, bl_zero]) (by omega)
      · simp (maxSteps := 1000000) (disch := omega) [go_sem, innerS, newRs, outA, rowA, rowRs, mroots, mla, bl_succ]
        refine condK_if (fun h2 => ?_) (fun h2 => ?_)
        · simp (maxSteps := 1000000) (disch := omega) [go_sem]
          refine ⟨⟨rfl, by simp [Tryd.f46]⟩, CallK_of [] blank_cr (by simp [go_sem]) ⟨by simp [go_sem], by simp [go_sem]⟩ (by simp [go_sem]) ?_⟩
          rintro y rs ⟨rfl, rfl⟩
          simp (maxSteps := 1000000) (disch := omega) [go_sem, wrap64, clP, blk, bl_upd, bl_len]
          refine ⟨⟨by omega, by omega⟩, ?_⟩
          refine LoopK_next (c + 1 + 1) (by omega) (by simp [go_sem, LeS, leV, leR, leA, leL, leL_refl, bl_upd, bl_succ]) (by omega)
        · obtain rfl : C = c + 1 := by omega
          simp (maxSteps := 1000000) (disch := omega) [go_sem, wrap64, bl_upd, bl_succ]
          refine ⟨rfl, ?_⟩
          refine LoopK_nextR 2 [([101], [36]), ([40], [40]), ([100], [100])] (by omega) (by simp [go_sem, LeS, leV, leR, leA, leL, leL_refl, mroots, mla, bl_upd, bl_ren]) (by omega)
    · obtain rfl : R = 1 := by omega
      simp (maxSteps := 1000000) (disch := omega) [go_sem, mroots, mla]
      exact ret_keep [[40], [100]] _ (by simp) (by simp [go_sem, resOf, leA]) ⟨rfl, by simp [go_sem, bl_upd]⟩
  · simp (maxSteps := 1000000) (disch := omega) [go_sem, outerS, newRs, outA, mroots, mla]
    refine condK_if (fun h1 => ?_) (fun h1 => ?_)
    · simp (maxSteps := 1000000) (disch := omega) [go_sem]
      refine wpA_loop (fun c : Nat => c ≤ C) (fun c => innerS R C 2 c) (fun c => C - c) 0 (by simp) (by simp [go_sem, LeS, leV, leR, leA, leL, leL_refl, innerS, newRs, outA, rowA, rowRs, mroots, mla, bl_upd]) ?_
      intro c hc
      rcases c with _ | c
      · simp (maxSteps := 1000000) (disch := omega) [go_sem, innerS, newRs, outA, rowA, rowRs, mroots, mla, bl_succ]
        refine condK_if (fun h2 => ?_) (fun h2 => by omega)
        simp (maxSteps := 1000000) (disch := omega) [go_sem]
        refine ⟨⟨rfl, by simp [Tryd.f46]⟩, CallK_of [] blank_cr (by simp [go_sem]) ⟨by simp [go_sem], by simp [go_sem]⟩ (by simp [go_sem]) ?_⟩
        rintro y rs ⟨rfl, rfl⟩
        simp (maxSteps := 1000000) (disch := omega) [go_sem, wrap64, clP, blk, bl_upd]
        refine LoopK_next 1 (by omega) (by simp [go_sem, LeS, leV, leR, leA, leL, leL_refl, bl_upd, bl_zero]) (by omega)
      · simp (maxSteps := 1000000) (disch := omega) [go_sem, innerS, newRs, outA, rowA, rowRs, mroots, mla, bl_succ]
        refine condK_if (fun h2 => ?_) (fun h2 => ?_)
        · simp (maxSteps := 1000000) (disch := omega) [go_sem]
          refine ⟨⟨rfl, by simp [Tryd.f46]⟩, CallK_of [] blank_cr (by simp [go_sem]) ⟨by simp [go_sem], by simp [go_sem]⟩ (by simp [go_sem]) ?_⟩
          rintro y rs ⟨rfl, rfl⟩
          simp (maxSteps := 1000000) (disch := omega) [go_sem, wrap64, clP, blk, bl_upd, bl_len]
          refine ⟨⟨by omega, by omega⟩, ?_⟩
          refine LoopK_next (c + 1 + 1) (by omega) (by simp [go_sem, LeS, leV, leR, leA, leL, leL_refl, bl_upd, bl_succ]) (by omega)
        · obtain rfl : C = c + 1 := by omega
          simp (maxSteps := 1000000) (disch := omega) [go_sem, wrap64, bl_upd, bl_succ]
          refine ⟨rfl, ?_⟩
          refine LoopK_nextR 3 [([102], [36]), ([40], [40]), ([100], [100]), ([101], [101])] (by omega) (by simp [go_sem, LeS, leV, leR, leA, leL, leL_refl, mroots, mla, bl_upd, bl_ren]) (by omega)
    · obtain rfl : R = 2 := by omega
      simp (maxSteps := 1000000) (disch := omega) [go_sem, mroots, mla]
      exact ret_keep [[40], [100], [101]] _ (by simp) (by simp [go_sem, resOf, leA]) ⟨rfl, by simp [go_sem, bl_upd]⟩
  · simp (maxSteps := 1000000) (disch := omega) [go_sem, outerS, newRs, outA, mroots, mla]
    refine condK_if (fun h1 => ?_) (fun h1 => ?_)
    · simp (maxSteps := 1000000) (disch := omega) [go_sem]
      refine wpA_loop (fun c : Nat => c ≤ C) (fun c => innerS R C 3 c) (fun c => C - c) 0 (by simp) (by simp [go_sem, LeS, leV, leR, leA, leL, leL_refl, innerS, newRs, outA, rowA, rowRs, mroots, mla, bl_upd]) ?_
      intro c hc
      rcases c with _ | c
      · simp (maxSteps := 1000000) (disch := omega) [go_sem, innerS, newRs, outA, rowA, rowRs, mroots, mla, bl_succ]
        refine condK_if (fun h2 => ?_) (fun h2 => by omega)
        simp (maxSteps := 1000000) (disch := omega) [go_sem]
        refine ⟨⟨rfl, by simp [Tryd.f46]⟩, CallK_of [] blank_cr (by simp [go_sem]) ⟨by simp [go_sem], by simp [go_sem]⟩ (by simp [go_sem]) ?_⟩
        rintro y rs ⟨rfl, rfl⟩
        simp (maxSteps := 1000000) (disch := omega) [go_sem, wrap64, clP, blk, bl_upd]
        refine LoopK_next 1 (by omega) (by simp [go_sem, LeS, leV, leR, leA, leL, leL_refl, bl_upd, bl_zero]) (by omega)
      · simp (maxSteps := 1000000) (disch := omega) [go_sem, innerS, newRs, outA, rowA, rowRs, mroots, mla, bl_succ]
        refine condK_if (fun h2 => ?_) (fun h2 => ?_)
        · simp (maxSteps := 1000000) (disch := omega) [go_sem]
          refine ⟨⟨rfl, by simp [Tryd.f46]⟩, CallK_of [] blank_cr (by simp [go_sem]) ⟨by simp [go_sem], by simp [go_sem]⟩ (by simp [go_sem]) ?_⟩
          rintro y rs ⟨rfl, rfl⟩
          simp (maxSteps := 1000000) (disch := omega) [go_sem, wrap64, clP, blk, bl_upd, bl_len]
          refine ⟨⟨by omega, by omega⟩, ?_⟩
          refine LoopK_next (c + 1 + 1) (by omega) (by simp [go_sem, LeS, leV, leR, leA, leL, leL_refl, bl_upd, bl_succ]) (by omega)
        · obtain rfl : C = c + 1 := by omega
          simp (maxSteps := 1000000) (disch := omega) [go_sem, wrap64, bl_upd, bl_succ]
          refine ⟨rfl, ?_⟩
          refine LoopK_nextR 4 [([103], [36]), ([40], [40]), ([100], [100]), ([101], [101]), ([102], [102])] (by omega) (by simp [go_sem, LeS, leV, leR, leA, leL, leL_refl, mroots, mla, bl_upd, bl_ren]) (by omega)
    · obtain rfl : R = 3 := by omega
      simp (maxSteps := 1000000) (disch := omega) [go_sem, mroots, mla]
      exact ret_keep [[40], [100], [101], [102]] _ (by simp) (by simp [go_sem, resOf, leA]) ⟨rfl, by simp [go_sem, bl_upd]⟩
  · simp (maxSteps := 1000000) (disch := omega) [go_sem, outerS, newRs, outA, mroots, mla]
    obtain rfl : R = 4 := by omega
    simp (maxSteps := 1000000) (disch := omega) [go_sem, mroots, mla]
    exact ret_keep [[40], [100], [101], [102], [103]] _ (by simp) (by simp [go_sem, resOf, leA]) ⟨rfl, by simp [go_sem, bl_upd]⟩
  · omega
theorem cw_take (l : Row) (c : Nat) : List.take (c * 2) (cw l) = cw (l.take c) := by
  induction l generalizing c with
  | nil => simp [cw]
  | cons x l ih =>
    cases c with
    | zero => rfl
    | succ c =>
      rw [show (c + 1) * 2 = c * 2 + 1 + 1 from by omega]
      simp only [cw, List.take_succ_cons, ih]
theorem cw_drop (l : Row) (c : Nat) : List.drop (c * 2) (cw l) = cw (l.drop c) := by
  induction l generalizing c with
  | nil => simp [cw]
  | cons x l ih =>
    cases c with
    | zero => rfl
    | succ c =>
      rw [show (c + 1) * 2 = c * 2 + 1 + 1 from by omega]
      simp only [cw, List.drop_succ_cons, ih]
theorem cw_at0 {l : Row} {c : Nat} (h : c < l.length) : (cw l)[c * 2]? = some (.p (.str l[c].t)) := by
  induction l generalizing c with
  | nil => simp at h
  | cons x l ih =>
    cases c with
    | zero => rfl
    | succ c =>
      rw [show (c + 1) * 2 = c * 2 + 1 + 1 from by omega]
      simp only [cw, List.getElem?_cons_succ, List.getElem_cons_succ]
      exact ih (by simpa using h)
theorem cw_at1 {l : Row} {c : Nat} (h : c < l.length) : (cw l)[c * 2 + 1]? = some (.p (.int .i64 l[c].w)) := by
  induction l generalizing c with
  | nil => simp at h
  | cons x l ih =>
    cases c with
    | zero => rfl
    | succ c =>
      rw [show (c + 1) * 2 + 1 = c * 2 + 1 + 1 + 1 from by omega]
      simp only [cw, List.getElem?_cons_succ, List.getElem_cons_succ]
      exact ih (by simpa using h)
theorem cw_put {l : Row} {c : Nat} (t : List UInt8) (w : Int) (h : c < l.length) : List.take (c * 2) (cw l) ++ .p (.str t) :: .p (.int .i64 w) :: List.drop (c * 2 + 2) (cw l) = cw (l.set c ⟨t, w⟩) := by
  rw [show c * 2 + 2 = (c + 1) * 2 from by omega, cw_take, cw_drop, List.set_eq_take_append_cons_drop, if_pos h, cw_app]
  rfl
def looseA (l : Row) (c : Nat) : Row := if (l.getD c blk).w = 0 then l.set (c - 1) blk else l
def looseB (l : Row) (c : Nat) : Row := if (l.getD c blk).w = 2 then l.set (c + 1) blk else l
def looseR (l : Row) (c : Nat) : Row := (looseB (looseA l c) c).set c blk
theorem row_getD {l : Row} {c : Nat} (h : c < l.length) : l.getD c blk = l[c] := by rw [List.getD_eq_getElem?_getD, List.getElem?_eq_getElem h]; rfl
theorem looseA_len (l : Row) (c : Nat) : (looseA l c).length = l.length := by unfold looseA; split <;> simp
theorem looseB_len (l : Row) (c : Nat) : (looseB l c).length = l.length := by unfold looseB; split <;> simp
theorem looseR_len (l : Row) (c : Nat) : (looseR l c).length = l.length := by rw [looseR, List.length_set, looseB_len, looseA_len]
/-- No cell belongs to one that is not there. -/
def OkR (l : Row) : Prop := ∀ (c : Nat) (x : Cl), l[c]? = some x → (x.w = 0 → 0 < c) ∧ (x.w = 2 → c + 1 < l.length)
theorem OkR.set {l : Row} (h : OkR l) (c : Nat) (x : Cl) (h0 : x.w = 0 → 0 < c) (h2 : x.w = 2 → c + 1 < l.length) : OkR (l.set c x) := fun k y hy => by
  rw [List.length_set]
  rw [List.getElem?_set] at hy
  split at hy
  · rename_i e
    split at hy
    · injection hy with hy; subst hy; subst e; exact ⟨h0, h2⟩
    · cases hy
  · exact h k y hy
theorem OkR.blank {l : Row} (h : OkR l) (c : Nat) : OkR (l.set c blk) := h.set c blk (by simp [blk]) (by simp [blk])
theorem OkR.looseA {l : Row} (h : OkR l) (c : Nat) : OkR (looseA l c) := by unfold Go.Proofs.YtjgfmanahimpoaaDoor.looseA; split <;> first | exact h.blank _ | exact h
theorem OkR.looseB {l : Row} (h : OkR l) (c : Nat) : OkR (looseB l c) := by unfold Go.Proofs.YtjgfmanahimpoaaDoor.looseB; split <;> first | exact h.blank _ | exact h
theorem OkR.looseR {l : Row} (h : OkR l) (c : Nat) : OkR (looseR l c) := ((h.looseA c).looseB c).blank c
def rowRoot (l : Row) : List (Tok × List AV) := [([0], cw l)]
theorem loose_cr (l : Row) (c : Nat) (hc : c < l.length) (hl : l.length ≤ 1000) (ho : OkR l) : CR Tryd.prog 50 [[0]] [.la [0] 2 0 l.length, .p (.int .i64 c)] (rowRoot l) (fun x rs' => x = .tup [] ∧ rs' = rowRoot (looseR l c)) := by
  refine CR_of_wp mixed 2 [] Tryd.func50 rfl (by kernel_rfl) rfl (by simp) (by simp) ?_
  simp (maxSteps := 1000000) (disch := omega) [go_sem, Tryd.f50, rowRoot, cw_at1 hc]
  refine ⟨hc, ?_⟩
  refine condK_join (ι := List (Nat × AV)) (fun ts => { n := 30, nv := 2, vs := [(0, .la [0] 2 0 l.length), (1, .p (.int .i64 c))], ts := ts, rs := [([0], cw (looseA l c))], pin := [[0]] }) (condK_if (fun h => ?_) (fun h => ?_)) ?_
  · have h0 := (ho c l[c] (List.getElem?_eq_getElem hc)).1 h
    obtain ⟨k, rfl⟩ : ∃ k, c = k + 1 := ⟨c - 1, by omega⟩
    have hk : k < l.length := by omega
    have ea : looseA l (k + 1) = l.set k blk := by rw [looseA, row_getD hc, if_pos h]; rfl
    have ew := cw_put (l := l) (c := k) [32] 1 hk
    rw [ea]
    simp (maxSteps := 1000000) (disch := omega) [go_sem, wrap64]
    refine ⟨⟨rfl, by simp [Tryd.f46]⟩, CallK_of [] blank_cr (by simp [go_sem]) ⟨by simp [go_sem], by simp [go_sem]⟩ (by simp [go_sem]) ?_⟩
    rintro y rs ⟨rfl, rfl⟩
    simp (maxSteps := 1000000) (disch := omega) [go_sem, clP, blk, cw_len, cw_upd]
    exact ⟨hk, by omega, JoinK_in _ (by rw [ew])⟩
  · have ea : looseA l c = l := by rw [looseA, row_getD hc, if_neg h]
    rw [ea]
    simp (maxSteps := 1000000) (disch := omega) [go_sem]
    exact JoinK_in _ rfl
  · intro ts
    have hc1 : c < (looseA l c).length := by rw [looseA_len]; exact hc
    have ho1 := ho.looseA c
    have hl1 := looseA_len l c
    have er : looseR l c = (looseB (looseA l c) c).set c blk := rfl
    rw [er]
    generalize looseA l c = l1 at hc1 ho1 hl1 ⊢
    simp (maxSteps := 1000000) (disch := omega) [go_sem, cw_at1 hc1]
    refine ⟨hc, ?_⟩
    refine condK_join (ι := List (Nat × AV)) (fun ts => { n := 30, nv := 2, vs := [(0, .la [0] 2 0 l.length), (1, .p (.int .i64 c))], ts := ts, rs := [([0], cw (looseB l1 c))], pin := [[0]] }) (condK_if (fun h => ?_) (fun h => ?_)) ?_
    · have h0 := (ho1 c l1[c] (List.getElem?_eq_getElem hc1)).2 h
      have ea : looseB l1 c = l1.set (c + 1) blk := by rw [looseB, row_getD hc1, if_pos h]
      have ew := cw_put (l := l1) (c := c + 1) [32] 1 h0
      rw [ea]
      simp (maxSteps := 1000000) (disch := omega) [go_sem, wrap64]
      refine ⟨⟨rfl, by simp [Tryd.f46]⟩, CallK_of [] blank_cr (by simp [go_sem]) ⟨by simp [go_sem], by simp [go_sem]⟩ (by simp [go_sem]) ?_⟩
      rintro y rs ⟨rfl, rfl⟩
      simp (maxSteps := 1000000) (disch := omega) [go_sem, clP, blk, cw_len, cw_upd]
      exact ⟨by omega, by omega, JoinK_in _ (by rw [ew])⟩
    · have ea : looseB l1 c = l1 := by rw [looseB, row_getD hc1, if_neg h]
      rw [ea]
      simp (maxSteps := 1000000) (disch := omega) [go_sem]
      exact JoinK_in _ rfl
    · intro ts
      have hc2 : c < (looseB l1 c).length := by rw [looseB_len]; exact hc1
      have hl2 := looseB_len l1 c
      generalize looseB l1 c = l2 at hc2 hl2 ⊢
      have ew := cw_put (l := l2) (c := c) [32] 1 hc2
      simp (maxSteps := 1000000) (disch := omega) [go_sem]
      refine ⟨⟨rfl, by simp [Tryd.f46]⟩, CallK_of [] blank_cr (by simp [go_sem]) ⟨by simp [go_sem], by simp [go_sem]⟩ (by simp [go_sem]) ?_⟩
      rintro y rs ⟨rfl, rfl⟩
      simp (maxSteps := 1000000) (disch := omega) [go_sem, clP, blk, cw_len, cw_upd]
      trace_state
      exact ⟨hc, by omega, ret_keep [[0]] _ (by simp) (by simp [go_sem, resOf]) ⟨rfl, by simp [go_sem, ew, cw_upd]⟩⟩
def g1 (C : Nat) (r0 : Row) : List (Tok × List AV) := [([0], [.la [1] 2 0 C]), ([1], cw r0)]
def g2 (C : Nat) (r0 r1 : Row) : List (Tok × List AV) := [([0], [.la [1] 2 0 C, .la [2] 2 0 C]), ([1], cw r0), ([2], cw r1)]
def g3 (C : Nat) (r0 r1 r2 : Row) : List (Tok × List AV) := [([0], [.la [1] 2 0 C, .la [2] 2 0 C, .la [3] 2 0 C]), ([1], cw r0), ([2], cw r1), ([3], cw r2)]
def g4 (C : Nat) (r0 r1 r2 r3 : Row) : List (Tok × List AV) := [([0], [.la [1] 2 0 C, .la [2] 2 0 C, .la [3] 2 0 C, .la [4] 2 0 C]), ([1], cw r0), ([2], cw r1), ([3], cw r2), ([4], cw r3)]
theorem in1_cr (C : Nat) (r0 : Row) (r c : Int) (_ : C ≤ 1000) : CR Tryd.prog 49 [[0], [1]] [.la [0] 1 0 1, .p (.int .i64 r), .p (.int .i64 c)] (g1 C r0)
    (fun x rs' => x = .p (.bool (decide (0 ≤ r) && decide (r < 1) && decide (0 ≤ c) && decide (c < C))) ∧ rs' = g1 C r0) := by
  refine CR_of_wp mixed 7 [] Tryd.func49 rfl (by kernel_rfl) rfl (by simp) (by simp) ?_
  by_cases h0 : 0 ≤ r
  · by_cases h1 : r < 1
    · obtain ⟨k, rfl⟩ : ∃ k : Nat, r = k := ⟨r.toNat, by omega⟩
      have hk : k < 1 := by omega
      rcases k with _ | k
      · simp (maxSteps := 1000000) (disch := omega) [go_sem, Tryd.f49, g1]
        exact ret_keep [[0], [1]] _ (by simp) (by simp [go_sem, resOf, leA]) ⟨rfl, by simp [go_sem, cw_upd]⟩
      · omega
    · have hn : ∀ a0 : AV, [a0][r.toNat]? = none := fun _ => by
        apply List.getElem?_eq_none; simp; omega
      simp (maxSteps := 1000000) (disch := omega) [go_sem, Tryd.f49, g1, h0, h1, hn]
      exact ret_keep [[0], [1]] _ (by simp) (by simp [go_sem, resOf, leA]) ⟨rfl, by simp [go_sem, cw_upd]⟩
  · have ht : r.toNat = 0 := by omega
    simp (maxSteps := 1000000) (disch := omega) [go_sem, Tryd.f49, g1, h0, ht]
    exact ret_keep [[0], [1]] _ (by simp) (by simp [go_sem, resOf, leA]) ⟨rfl, by simp [go_sem, cw_upd]⟩
theorem in2_cr (C : Nat) (r0 r1 : Row) (r c : Int) (_ : C ≤ 1000) : CR Tryd.prog 49 [[0], [1], [2]] [.la [0] 1 0 2, .p (.int .i64 r), .p (.int .i64 c)] (g2 C r0 r1)
    (fun x rs' => x = .p (.bool (decide (0 ≤ r) && decide (r < 2) && decide (0 ≤ c) && decide (c < C))) ∧ rs' = g2 C r0 r1) := by
  refine CR_of_wp mixed 7 [] Tryd.func49 rfl (by kernel_rfl) rfl (by simp) (by simp) ?_
  by_cases h0 : 0 ≤ r
  · by_cases h1 : r < 2
    · obtain ⟨k, rfl⟩ : ∃ k : Nat, r = k := ⟨r.toNat, by omega⟩
      have hk : k < 2 := by omega
      rcases k with _ | _ | k
      · simp (maxSteps := 1000000) (disch := omega) [go_sem, Tryd.f49, g2]
        exact ret_keep [[0], [1], [2]] _ (by simp) (by simp [go_sem, resOf, leA]) ⟨rfl, by simp [go_sem, cw_upd]⟩
      · simp (maxSteps := 1000000) (disch := omega) [go_sem, Tryd.f49, g2]
        exact ret_keep [[0], [1], [2]] _ (by simp) (by simp [go_sem, resOf, leA]) ⟨rfl, by simp [go_sem, cw_upd]⟩
      · omega
    · have hn : ∀ a0 a1 : AV, [a0, a1][r.toNat]? = none := fun _ _ => by
        apply List.getElem?_eq_none; simp; omega
      simp (maxSteps := 1000000) (disch := omega) [go_sem, Tryd.f49, g2, h0, h1, hn]
      exact ret_keep [[0], [1], [2]] _ (by simp) (by simp [go_sem, resOf, leA]) ⟨rfl, by simp [go_sem, cw_upd]⟩
  · have ht : r.toNat = 0 := by omega
    simp (maxSteps := 1000000) (disch := omega) [go_sem, Tryd.f49, g2, h0, ht]
    exact ret_keep [[0], [1], [2]] _ (by simp) (by simp [go_sem, resOf, leA]) ⟨rfl, by simp [go_sem, cw_upd]⟩
theorem in3_cr (C : Nat) (r0 r1 r2 : Row) (r c : Int) (_ : C ≤ 1000) : CR Tryd.prog 49 [[0], [1], [2], [3]] [.la [0] 1 0 3, .p (.int .i64 r), .p (.int .i64 c)] (g3 C r0 r1 r2)
    (fun x rs' => x = .p (.bool (decide (0 ≤ r) && decide (r < 3) && decide (0 ≤ c) && decide (c < C))) ∧ rs' = g3 C r0 r1 r2) := by
  refine CR_of_wp mixed 7 [] Tryd.func49 rfl (by kernel_rfl) rfl (by simp) (by simp) ?_
  by_cases h0 : 0 ≤ r
  · by_cases h1 : r < 3
    · obtain ⟨k, rfl⟩ : ∃ k : Nat, r = k := ⟨r.toNat, by omega⟩
      have hk : k < 3 := by omega
      rcases k with _ | _ | _ | k
      · simp (maxSteps := 1000000) (disch := omega) [go_sem, Tryd.f49, g3]
        exact ret_keep [[0], [1], [2], [3]] _ (by simp) (by simp [go_sem, resOf, leA]) ⟨rfl, by simp [go_sem, cw_upd]⟩
      · simp (maxSteps := 1000000) (disch := omega) [go_sem, Tryd.f49, g3]
        exact ret_keep [[0], [1], [2], [3]] _ (by simp) (by simp [go_sem, resOf, leA]) ⟨rfl, by simp [go_sem, cw_upd]⟩
      · simp (maxSteps := 1000000) (disch := omega) [go_sem, Tryd.f49, g3]
        exact ret_keep [[0], [1], [2], [3]] _ (by simp) (by simp [go_sem, resOf, leA]) ⟨rfl, by simp [go_sem, cw_upd]⟩
      · omega
    · have hn : ∀ a0 a1 a2 : AV, [a0, a1, a2][r.toNat]? = none := fun _ _ _ => by
        apply List.getElem?_eq_none; simp; omega
      simp (maxSteps := 1000000) (disch := omega) [go_sem, Tryd.f49, g3, h0, h1, hn]
      exact ret_keep [[0], [1], [2], [3]] _ (by simp) (by simp [go_sem, resOf, leA]) ⟨rfl, by simp [go_sem, cw_upd]⟩
  · have ht : r.toNat = 0 := by omega
    simp (maxSteps := 1000000) (disch := omega) [go_sem, Tryd.f49, g3, h0, ht]
    exact ret_keep [[0], [1], [2], [3]] _ (by simp) (by simp [go_sem, resOf, leA]) ⟨rfl, by simp [go_sem, cw_upd]⟩
theorem in4_cr (C : Nat) (r0 r1 r2 r3 : Row) (r c : Int) (_ : C ≤ 1000) : CR Tryd.prog 49 [[0], [1], [2], [3], [4]] [.la [0] 1 0 4, .p (.int .i64 r), .p (.int .i64 c)] (g4 C r0 r1 r2 r3)
    (fun x rs' => x = .p (.bool (decide (0 ≤ r) && decide (r < 4) && decide (0 ≤ c) && decide (c < C))) ∧ rs' = g4 C r0 r1 r2 r3) := by
  refine CR_of_wp mixed 7 [] Tryd.func49 rfl (by kernel_rfl) rfl (by simp) (by simp) ?_
  by_cases h0 : 0 ≤ r
  · by_cases h1 : r < 4
    · obtain ⟨k, rfl⟩ : ∃ k : Nat, r = k := ⟨r.toNat, by omega⟩
      have hk : k < 4 := by omega
      rcases k with _ | _ | _ | _ | k
      · simp (maxSteps := 1000000) (disch := omega) [go_sem, Tryd.f49, g4]
        exact ret_keep [[0], [1], [2], [3], [4]] _ (by simp) (by simp [go_sem, resOf, leA]) ⟨rfl, by simp [go_sem, cw_upd]⟩
      · simp (maxSteps := 1000000) (disch := omega) [go_sem, Tryd.f49, g4]
        exact ret_keep [[0], [1], [2], [3], [4]] _ (by simp) (by simp [go_sem, resOf, leA]) ⟨rfl, by simp [go_sem, cw_upd]⟩
      · simp (maxSteps := 1000000) (disch := omega) [go_sem, Tryd.f49, g4]
        exact ret_keep [[0], [1], [2], [3], [4]] _ (by simp) (by simp [go_sem, resOf, leA]) ⟨rfl, by simp [go_sem, cw_upd]⟩
      · simp (maxSteps := 1000000) (disch := omega) [go_sem, Tryd.f49, g4]
        exact ret_keep [[0], [1], [2], [3], [4]] _ (by simp) (by simp [go_sem, resOf, leA]) ⟨rfl, by simp [go_sem, cw_upd]⟩
      · omega
    · have hn : ∀ a0 a1 a2 a3 : AV, [a0, a1, a2, a3][r.toNat]? = none := fun _ _ _ _ => by
        apply List.getElem?_eq_none; simp; omega
      simp (maxSteps := 1000000) (disch := omega) [go_sem, Tryd.f49, g4, h0, h1, hn]
      exact ret_keep [[0], [1], [2], [3], [4]] _ (by simp) (by simp [go_sem, resOf, leA]) ⟨rfl, by simp [go_sem, cw_upd]⟩
  · have ht : r.toNat = 0 := by omega
    simp (maxSteps := 1000000) (disch := omega) [go_sem, Tryd.f49, g4, h0, ht]
    exact ret_keep [[0], [1], [2], [3], [4]] _ (by simp) (by simp [go_sem, resOf, leA]) ⟨rfl, by simp [go_sem, cw_upd]⟩
/-- A glyph, put into a row. -/
def putR (l : Row) (c : Nat) (x : Cl) : Row := (if x.w = 2 then (looseR (looseR l c) (c + 1)).set (c + 1) ⟨[], 0⟩ else looseR l c).set c x
def putB (C R : Nat) (r c : Int) (x : Cl) : Bool := decide (0 ≤ r) && decide (r < R) && decide (0 ≤ c) && decide (c < C) && (decide (x.w = 1) || decide (x.w = 2)) && (!decide (x.w = 2) || decide (c + 1 < C))
def putI (C R : Nat) (r c : Int) (x : Cl) (i : Nat) (l : Row) : Row := if putB C R r c x then if r = (i : Int) then putR l c.toNat x else l else l
theorem loose_c (l : Row) (c C : Nat) (hC : l.length = C) (hc : c < l.length) (hl : C ≤ 1000) (ho : OkR l) : CR Tryd.prog 50 [[0]] [.la [0] 2 0 C, .p (.int .i64 c)] (rowRoot l) (fun x rs' => x = .tup [] ∧ rs' = rowRoot (looseR l c)) := by
  subst hC
  exact loose_cr l c hc hl ho
theorem putR_len (l : Row) (c : Nat) (x : Cl) : (putR l c x).length = l.length := by
  unfold putR
  split <;> simp [looseR_len]
theorem putI_len (C R : Nat) (r c : Int) (x : Cl) (i : Nat) (l : Row) : (putI C R r c x i l).length = l.length := by
  unfold putI
  split
  · split
    · exact putR_len _ _ _
    · rfl
  · rfl
theorem putI_ok (C R : Nat) (r c : Int) (x : Cl) (i : Nat) (l : Row) (hl : l.length = C) (h : OkR l) : OkR (putI C R r c x i l) := by
  unfold putI
  split
  · rename_i hb
    split
    · have hb' : ((((0 ≤ r ∧ r < R) ∧ 0 ≤ c) ∧ c < C) ∧ (x.w = 1 ∨ x.w = 2)) ∧ (¬ x.w = 2 ∨ c + 1 < C) := by simpa [putB] using hb
      obtain ⟨⟨⟨⟨_, h0⟩, h1⟩, h2⟩, h3⟩ := hb'
      unfold putR
      by_cases hw : x.w = 2
      · rw [if_pos hw]
        refine (((h.looseR _).looseR _).set _ _ (fun _ => by omega) (fun e => by simp at e)).set _ _ (fun e => by omega) (fun _ => ?_)
        rw [List.length_set, looseR_len, looseR_len, hl]
        have := h3.resolve_left (by simpa using hw)
        omega
      · rw [if_neg hw]
        exact (h.looseR _).set _ _ (fun e => by omega) (fun e => absurd e hw)
    · exact h
  · exact h
/-- So many cells of a row, made blank from a place on. -/
def eraseP (l : Row) (c : Nat) : Nat → Row
  | 0 => l
  | j + 1 => looseR (eraseP l c j) (c + j)
theorem eraseP_len (l : Row) (c j : Nat) : (eraseP l c j).length = l.length := by
  induction j with
  | zero => rfl
  | succ j ih => rw [eraseP, looseR_len, ih]
theorem eraseP_ok (l : Row) (c j : Nat) (h : OkR l) : OkR (eraseP l c j) := by
  induction j with
  | zero => exact h
  | succ j ih => exact ih.looseR _
def eraseI (C R : Nat) (r c : Int) (i : Nat) (l : Row) : Row := if (0 ≤ r ∧ r < R) ∧ 0 ≤ c then if r = (i : Int) then eraseP l c.toNat (C - c.toNat) else l else l
theorem eraseI_len (C R : Nat) (r c : Int) (i : Nat) (l : Row) : (eraseI C R r c i l).length = l.length := by
  unfold eraseI
  split
  · split
    · exact eraseP_len _ _ _
    · rfl
  · rfl
theorem eraseI_ok (C R : Nat) (r c : Int) (i : Nat) (l : Row) (h : OkR l) : OkR (eraseI C R r c i l) := by
  unfold eraseI
  split
  · split
    · exact eraseP_ok _ _ _ h
    · exact h
  · exact h
end Go.Proofs.YtjgfmanahimpoaaDoor
