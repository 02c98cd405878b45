/- What the document's grid's functions do at a row, as contracts of the abstract machine. Conditions: as each law says. -/
import Derived.Test.YtjgfmanahimpoaaDifA
namespace Go.Proofs.Ytjgfmanahimpoaa
open Go.AM
set_option maxHeartbeats 800000
set_option maxRecDepth 10000
theorem cw_take (l : Row) (c : Nat) : List.take (c * 2) (cw l) = cw (l.take c) := by
  induction l generalizing c with
  | nil => simp [cw]
  | cons x l ih =>
    cases c with
    | zero => rfl
    | succ c =>
      rw [show (c + 1) * 2 = c * 2 + 1 + 1 from by omega]
      simp only [cw, List.take_succ_cons, ih]
theorem cw_drop (l : Row) (c : Nat) : List.drop (c * 2) (cw l) = cw (l.drop c) := by
  induction l generalizing c with
  | nil => simp [cw]
  | cons x l ih =>
    cases c with
    | zero => rfl
    | succ c =>
      rw [show (c + 1) * 2 = c * 2 + 1 + 1 from by omega]
      simp only [cw, List.drop_succ_cons, ih]
theorem cw_at0 {l : Row} {c : Nat} (h : c < l.length) : (cw l)[c * 2]? = some (.p (.str l[c].t)) := by
  induction l generalizing c with
  | nil => simp at h
  | cons x l ih =>
    cases c with
    | zero => rfl
    | succ c =>
      rw [show (c + 1) * 2 = c * 2 + 1 + 1 from by omega]
      simp only [cw, List.getElem?_cons_succ, List.getElem_cons_succ]
      exact ih (by simpa using h)
theorem cw_at1 {l : Row} {c : Nat} (h : c < l.length) : (cw l)[c * 2 + 1]? = some (.p (.int .i64 l[c].w)) := by
  induction l generalizing c with
  | nil => simp at h
  | cons x l ih =>
    cases c with
    | zero => rfl
    | succ c =>
      rw [show (c + 1) * 2 + 1 = c * 2 + 1 + 1 + 1 from by omega]
      simp only [cw, List.getElem?_cons_succ, List.getElem_cons_succ]
      exact ih (by simpa using h)
theorem cw_put {l : Row} {c : Nat} (t : List UInt8) (w : Int) (h : c < l.length) : List.take (c * 2) (cw l) ++ .p (.str t) :: .p (.int .i64 w) :: List.drop (c * 2 + 2) (cw l) = cw (l.set c ⟨t, w⟩) := by
  rw [show c * 2 + 2 = (c + 1) * 2 from by omega, cw_take, cw_drop, List.set_eq_take_append_cons_drop, if_pos h, cw_app]
  rfl
def looseA (l : Row) (c : Nat) : Row := if (l.getD c blk).w = 0 then l.set (c - 1) blk else l
def looseB (l : Row) (c : Nat) : Row := if (l.getD c blk).w = 2 then l.set (c + 1) blk else l
def looseR (l : Row) (c : Nat) : Row := (looseB (looseA l c) c).set c blk
theorem row_getD {l : Row} {c : Nat} (h : c < l.length) : l.getD c blk = l[c] := by rw [List.getD_eq_getElem?_getD, List.getElem?_eq_getElem h]; rfl
theorem looseA_len (l : Row) (c : Nat) : (looseA l c).length = l.length := by unfold looseA; split <;> simp
theorem looseB_len (l : Row) (c : Nat) : (looseB l c).length = l.length := by unfold looseB; split <;> simp
theorem looseR_len (l : Row) (c : Nat) : (looseR l c).length = l.length := by rw [looseR, List.length_set, looseB_len, looseA_len]
/-- No cell belongs to one that is not there. -/
def OkR (l : Row) : Prop := ∀ (c : Nat) (x : Cl), l[c]? = some x → (x.w = 0 → 0 < c) ∧ (x.w = 2 → c + 1 < l.length)
theorem OkR.set {l : Row} (h : OkR l) (c : Nat) (x : Cl) (h0 : x.w = 0 → 0 < c) (h2 : x.w = 2 → c + 1 < l.length) : OkR (l.set c x) := fun k y hy => by
  rw [List.length_set]
  rw [List.getElem?_set] at hy
  split at hy
  · rename_i e
    split at hy
    · injection hy with hy; subst hy; subst e; exact ⟨h0, h2⟩
    · cases hy
  · exact h k y hy
theorem OkR.blank {l : Row} (h : OkR l) (c : Nat) : OkR (l.set c blk) := h.set c blk (by simp [blk]) (by simp [blk])
theorem OkR.looseA {l : Row} (h : OkR l) (c : Nat) : OkR (looseA l c) := by unfold Go.Proofs.Ytjgfmanahimpoaa.looseA; split <;> first | exact h.blank _ | exact h
theorem OkR.looseB {l : Row} (h : OkR l) (c : Nat) : OkR (looseB l c) := by unfold Go.Proofs.Ytjgfmanahimpoaa.looseB; split <;> first | exact h.blank _ | exact h
theorem OkR.looseR {l : Row} (h : OkR l) (c : Nat) : OkR (looseR l c) := ((h.looseA c).looseB c).blank c
def rowRoot (l : Row) : List (Tok × List AV) := [([0], cw l)]
theorem loose_cr (l : Row) (c : Nat) (hc : c < l.length) (hl : l.length ≤ 1000) (ho : OkR l) : CR Try.prog 61 [[0]] [.la [0] 2 0 l.length, .p (.int .i64 c)] (rowRoot l) (fun x rs' => x = .tup [] ∧ rs' = rowRoot (looseR l c)) := by
  refine CR_of_wp mixed 2 [] Try.func61 rfl (by kernel_rfl) rfl (by simp) (by simp) ?_
  simp (maxSteps := 1000000) (disch := omega) [go_sem, Try.f61, rowRoot, cw_at1 hc]
  refine ⟨hc, ?_⟩
  refine condK_join (ι := List (Nat × AV)) (fun ts => { n := 30, nv := 2, vs := [(0, .la [0] 2 0 l.length), (1, .p (.int .i64 c))], ts := ts, rs := [([0], cw (looseA l c))], pin := [[0]] }) (condK_if (fun h => ?_) (fun h => ?_)) ?_
  · have h0 := (ho c l[c] (List.getElem?_eq_getElem hc)).1 h
    obtain ⟨k, rfl⟩ : ∃ k, c = k + 1 := ⟨c - 1, by omega⟩
    have hk : k < l.length := by omega
    have ea : looseA l (k + 1) = l.set k blk := by rw [looseA, row_getD hc, if_pos h]; rfl
    have ew := cw_put (l := l) (c := k) [32] 1 hk
    rw [ea]
    simp (maxSteps := 1000000) (disch := omega) [go_sem, wrap64]
    refine ⟨⟨rfl, by simp [Try.f57]⟩, CallK_of [] blank_cr (by simp [go_sem]) ⟨by simp [go_sem], by simp [go_sem]⟩ (by simp [go_sem]) ?_⟩
    rintro y rs ⟨rfl, rfl⟩
    simp (maxSteps := 1000000) (disch := omega) [go_sem, clP, blk, cw_len, cw_upd]
    exact ⟨hk, by omega, JoinK_in _ (by rw [ew])⟩
  · have ea : looseA l c = l := by rw [looseA, row_getD hc, if_neg h]
    rw [ea]
    simp (maxSteps := 1000000) (disch := omega) [go_sem]
    exact JoinK_in _ rfl
  · intro ts
    have hc1 : c < (looseA l c).length := by rw [looseA_len]; exact hc
    have ho1 := ho.looseA c
    have hl1 := looseA_len l c
    have er : looseR l c = (looseB (looseA l c) c).set c blk := rfl
    rw [er]
    generalize looseA l c = l1 at hc1 ho1 hl1 ⊢
    simp (maxSteps := 1000000) (disch := omega) [go_sem, cw_at1 hc1]
    refine ⟨hc, ?_⟩
    refine condK_join (ι := List (Nat × AV)) (fun ts => { n := 30, nv := 2, vs := [(0, .la [0] 2 0 l.length), (1, .p (.int .i64 c))], ts := ts, rs := [([0], cw (looseB l1 c))], pin := [[0]] }) (condK_if (fun h => ?_) (fun h => ?_)) ?_
    · have h0 := (ho1 c l1[c] (List.getElem?_eq_getElem hc1)).2 h
      have ea : looseB l1 c = l1.set (c + 1) blk := by rw [looseB, row_getD hc1, if_pos h]
      have ew := cw_put (l := l1) (c := c + 1) [32] 1 h0
      rw [ea]
      simp (maxSteps := 1000000) (disch := omega) [go_sem, wrap64]
      refine ⟨⟨rfl, by simp [Try.f57]⟩, CallK_of [] blank_cr (by simp [go_sem]) ⟨by simp [go_sem], by simp [go_sem]⟩ (by simp [go_sem]) ?_⟩
      rintro y rs ⟨rfl, rfl⟩
      simp (maxSteps := 1000000) (disch := omega) [go_sem, clP, blk, cw_len, cw_upd]
      exact ⟨by omega, by omega, JoinK_in _ (by rw [ew])⟩
    · have ea : looseB l1 c = l1 := by rw [looseB, row_getD hc1, if_neg h]
      rw [ea]
      simp (maxSteps := 1000000) (disch := omega) [go_sem]
      exact JoinK_in _ rfl
    · intro ts
      have hc2 : c < (looseB l1 c).length := by rw [looseB_len]; exact hc1
      have hl2 := looseB_len l1 c
      generalize looseB l1 c = l2 at hc2 hl2 ⊢
      have ew := cw_put (l := l2) (c := c) [32] 1 hc2
      simp (maxSteps := 1000000) (disch := omega) [go_sem]
      refine ⟨⟨rfl, by simp [Try.f57]⟩, CallK_of [] blank_cr (by simp [go_sem]) ⟨by simp [go_sem], by simp [go_sem]⟩ (by simp [go_sem]) ?_⟩
      rintro y rs ⟨rfl, rfl⟩
      simp (maxSteps := 1000000) (disch := omega) [go_sem, clP, blk, cw_len, cw_upd]
      trace_state
      exact ⟨hc, by omega, ret_keep [[0]] _ (by simp) (by simp [go_sem, resOf]) ⟨rfl, by simp [go_sem, ew, cw_upd]⟩⟩
end Go.Proofs.Ytjgfmanahimpoaa
