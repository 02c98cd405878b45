/- What slices.Equal does at two grids' cells, and Same, as contracts of the abstract machine. Conditions: as each law says. -/
import Derived.Test.YtjgfmanahimpoaaGriC
namespace Go.Proofs.Ytjgfmanahimpoaa
open Go.AM
set_option maxHeartbeats 1600000
set_option maxRecDepth 10000
theorem cw_two {l : Row} {c : Nat} (h : c < l.length) : List.take 2 (List.drop (c * 2) (cw l)) = [.p (.str l[c].t), .p (.int .i64 l[c].w)] := by
  rw [cw_drop, List.drop_eq_getElem_cons h]
  rfl
theorem cl_eq (x y : Cl) : (x.t = y.t ∧ x.w = y.w) ↔ x = y := by
  cases x; cases y; simp
theorem equal_cr (n : Nat) (l1 l2 : Row) (h1 : l1.length = n) (h2 : l2.length = n) (hb : n ≤ 1000000) :
    CR Try.prog 45 [[0], [1]] [.la [0] 2 0 n, .la [1] 2 0 n] [([0], cw l1), ([1], cw l2)] (fun x rs' => x = .p (.bool (l1 == l2)) ∧ rs' = [([0], cw l1), ([1], cw l2)]) := by
  refine CR_of_wpD [6] mixed 6 [12, 13] Try.func45 rfl (by kernel_rfl) rfl (by simp) (by simp) ?_
  simp (maxSteps := 1000000) (disch := omega) [go_sem, Try.f45]
  refine wpA_loop (fun i : Nat => i ≤ n ∧ l1.take i = l2.take i) (fun i => { n := 26, nv := 6, vs := [(0, .la [0] 2 0 n), (1, .la [1] 2 0 n), (12, .p (.int .i64 n)), (13, .p (.int .i64 i))], ts := [], rs := [([0], cw l1), ([1], cw l2)], pin := [[0], [1]], ex := [12, 13] }) (fun i => n - i) 0 (by simp) (by simp [go_sem, LeS, leV, leR, leA, leL_refl, cw_upd]) ?_
  rintro i ⟨hi, ht⟩
  simp (maxSteps := 1000000) (disch := omega) [go_sem]
  refine condK_if (fun h => ?_) (fun h => ?_)
  · have hi1 : i < l1.length := by omega
    have hi2 : i < l2.length := by omega
    simp (maxSteps := 1000000) (disch := omega) [go_sem, cw_two hi1, cw_two hi2]
    refine ⟨by omega, condK_split (fun h3 => ?_) (fun h3 => ?_)⟩
    · have hne : ¬ l1 = l2 := by
        rintro rfl
        simp at h3
      have hb2 : (l1 == l2) = false := by simpa using hne
      simp (maxSteps := 1000000) (disch := omega) [go_sem]
      exact ret_keep [[0], [1]] (.p (.bool false)) (by simp) (by simp [go_sem, resOf, leA]) ⟨by rw [hb2], by simp [go_sem, cw_upd]⟩
    · have he : l1[i] = l2[i] := by
        rw [← cl_eq]
        simpa using h3
      simp (maxSteps := 1000000) (disch := omega) [go_sem, wrap64]
      refine LoopK_next (i + 1) ⟨by omega, ?_⟩ (by simp [go_sem, LeS, leV, leR, leA, leL_refl, cw_upd]) (by omega)
      rw [List.take_succ_eq_append_getElem hi1, List.take_succ_eq_append_getElem hi2, ht, he]
  · obtain rfl : i = n := by omega
    have he : l1 = l2 := by rwa [List.take_of_length_le (by omega), List.take_of_length_le (by omega)] at ht
    have hb2 : (l1 == l2) = true := by simpa using he
    simp (maxSteps := 1000000) (disch := omega) [go_sem]
    exact ret_keep [[0], [1]] (.p (.bool true)) (by simp) (by simp [go_sem, resOf, leA]) ⟨by rw [hb2], by simp [go_sem, cw_upd]⟩
/-- Two grids. -/
def gpp (R C N : Nat) (l : Row) (R' C' N' : Nat) (l' : Row) : List (Tok × List AV) :=
  [([0], [.p (.int .i64 R), .p (.int .i64 C), .la [1] 2 0 N]), ([1], cw l), ([2], [.p (.int .i64 R'), .p (.int .i64 C'), .la [3] 2 0 N']), ([3], cw l')]
/-- The two grids are found, whatever their roots' order. -/
structure Gpp (rs' : List (Tok × List AV)) (R C N : Nat) (l : Row) (R' C' N' : Nat) (l' : Row) : Prop where
  r0 : lookT rs' [0] = some [.p (.int .i64 R), .p (.int .i64 C), .la [1] 2 0 N]
  r1 : lookT rs' [1] = some (cw l)
  r2 : lookT rs' [2] = some [.p (.int .i64 R'), .p (.int .i64 C'), .la [3] 2 0 N']
  r3 : lookT rs' [3] = some (cw l')
theorem CR.gpp {f : FuncId} {args : List AV} {rs : List (Tok × List AV)} {x0 : PV} {R C N : Nat} {l : Row} {R' C' N' : Nat} {l' : Row} (h : CR Try.prog f [[0], [1], [2], [3]] args rs (fun x rs' => x = .p x0 ∧ Gpp rs' R C N l R' C' N' l')) :
    CR Try.prog f [[0], [1], [2], [3]] args rs (fun x rs' => x = .p x0 ∧ rs' = gpp R C N l R' C' N' l') := by
  refine h.ren 1000 ?_
  rintro x rs' ⟨rfl, h0, h1, h2, h3⟩
  exact ⟨[([0], [0]), ([1], [1]), ([2], [2]), ([3], [3])], rfl, rfl, rfl, by simp [rootsR, St.ofR, h0, h1, h2, h3, Go.Proofs.Ytjgfmanahimpoaa.gpp, cw_ren, AV.ren, AV.upd, renG, renF, inM]⟩
theorem same_cr (R C N : Nat) (l l' : Row) (hN : N ≤ 1000000) (hl : l.length = N) (hl' : l'.length = N) :
    CR Try.prog 19 [[0], [1], [2], [3]] [.lp [0] 0, .lp [2] 0] (gpp R C N l R C N l') (fun x rs' => x = .p (.bool (l == l')) ∧ rs' = gpp R C N l R C N l') := by
  refine CR.gpp ?_
  have heq := equal_cr N l l' hl hl' hN
  refine CR_of_wp mixed 5 [] Try.func19 rfl (by kernel_rfl) rfl (by simp) (by simp) ?_
  simp (maxSteps := 1000000) (disch := omega) [go_sem, Try.f19, gpp]
  refine ⟨⟨rfl, by simp [Try.f45]⟩, CallK_of [([0], [1]), ([1], [3])] heq (by simp [go_sem]) ⟨by simp [go_sem], by simp [go_sem]⟩ (by simp [go_sem, cw_ren]) ?_⟩
  rintro y rs ⟨rfl, rfl⟩
  simp (maxSteps := 1000000) (disch := omega) [go_sem, cw_ren, cw_upd]
  exact ret_keep [[0], [1], [2], [3]] (.p (.bool (l == l'))) (by simp) (by simp [go_sem, resOf, leA]) ⟨rfl, by simp [go_sem, cw_upd], by simp [go_sem, cw_upd], by simp [go_sem, cw_upd], by simp [go_sem, cw_upd]⟩
end Go.Proofs.Ytjgfmanahimpoaa
