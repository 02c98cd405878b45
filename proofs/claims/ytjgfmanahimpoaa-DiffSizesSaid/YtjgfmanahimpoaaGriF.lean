/- What diff's Rows does, as contracts of the abstract machine. Conditions: as each law says. -/
import Derived.Test.YtjgfmanahimpoaaGriE
namespace Go.Proofs.Ytjgfmanahimpoaa
open Go.AM
set_option maxHeartbeats 1600000
set_option maxRecDepth 10000
/-- The rows that change, of the first so many. -/
def dRs (C : Nat) (l l' : Row) : Nat → List PV
  | 0 => []
  | k + 1 => if 0 ≤ dF (rowOf C l k) (rowOf C l' k) C then dRs C l l' k ++ [dRow k (rowOf C l k) (rowOf C l' k) C] else dRs C l l' k
theorem dRs_len (C : Nat) (l l' : Row) (k : Nat) : (dRs C l l' k).length ≤ k := by
  induction k with
  | zero => simp [dRs]
  | succ k ih =>
    rw [dRs]
    split
    · simp; omega
    · omega
theorem rows_cr (R C N : Nat) (l l' : Row) (hN : N = R * C) (hR : R ≤ 500) (hC : 0 < C ∧ C ≤ 1000) (hl : l.length = N) (hl' : l'.length = N)
    (ht : ∀ k, k < R → 0 ≤ dF (rowOf C l k) (rowOf C l' k) C → ∀ c ∈ rowOf C l' k, c.t.length ≤ 4294967296) :
    CR Try.prog 17 [[0], [1], [2], [3]] [.lp [0] 0, .lp [2] 0] (gpp R C N l R C N l') (fun x rs' => x = .p (.sl 5 (dRs C l l' R)) ∧ rs' = gpp R C N l R C N l') := by
  refine CR.gpp ?_
  have hs1 := size_cr R C N l
  have hs2 := size_cr R C N l'
  refine CR_of_wp mixed 13 [31, 32] Try.func17 rfl (by kernel_rfl) rfl (by simp) (by simp) ?_
  simp (maxSteps := 1000000) (disch := omega) [go_sem, Try.f17, gpp]
  refine ⟨⟨rfl, by simp [Try.f42]⟩, CallK_of [([0], [0]), ([1], [1])] hs1 (by simp [go_sem]) ⟨by simp [go_sem], by simp [go_sem]⟩ (by simp [go_sem, gp, cw_ren]) ?_⟩
  rintro y rs ⟨rfl, rfl⟩
  simp (maxSteps := 1000000) (disch := omega) [go_sem, gp, cw_ren, cw_upd]
  refine ⟨⟨rfl, by simp [Try.f42]⟩, CallK_of [([0], [2]), ([1], [3])] hs2 (by simp [go_sem]) ⟨by simp [go_sem], by simp [go_sem]⟩ (by simp [go_sem, gp, cw_ren]) ?_⟩
  rintro y rs ⟨rfl, rfl⟩
  simp (maxSteps := 1000000) (disch := omega) [go_sem, gp, cw_ren, cw_upd]
  refine wpA_loop (fun i : Nat => i ≤ R) (fun i => { n := 53, nv := 13, vs := [(0, .lp [0] 0), (1, .lp [2] 0), (9, .os [9] 5 (dRs C l l' i)), (31, .p (.int .i64 R)), (32, .p (.int .i64 i))], ts := [], rs := [([0], [.p (.int .i64 R), .p (.int .i64 C), .la [1] 2 0 N]), ([1], cw l), ([2], [.p (.int .i64 R), .p (.int .i64 C), .la [3] 2 0 N]), ([3], cw l')], pin := [[0], [1], [2], [3]], ex := [31, 32] }) (fun i => R - i) 0 (by simp) (by simp [go_sem, LeS, leV, leR, leA, leL, leL_refl, cw_upd, dRs]) ?_
  intro i hi
  simp (maxSteps := 1000000) (disch := omega) [go_sem]
  refine condK_if (fun h => ?_) (fun h => ?_)
  · have hi' : i < R := by omega
    have hr1 := grow_cr R C N l i hN hR hC hl hi'
    have hr2 := grow_cr R C N l' i hN hR hC hl' hi'
    have hd := drow_cr i C (rowOf C l i) (rowOf C l' i) (rowOf_len (by omega) hi') (rowOf_len (by omega) hi') (by omega) (ht i hi')
    have hdl := dRs_len C l l' i
    have hdS : dRs C l l' (i + 1) = if 0 ≤ dF (rowOf C l i) (rowOf C l' i) C then dRs C l l' i ++ [dRow i (rowOf C l i) (rowOf C l' i) C] else dRs C l l' i := rfl
    generalize rowOf C l i = a at *
    generalize rowOf C l' i = b at *
    simp (maxSteps := 1000000) (disch := omega) [go_sem]
    refine ⟨⟨rfl, by simp [Try.f44]⟩, CallK_of [([0], [0]), ([1], [1])] hr1 (by simp [go_sem]) ⟨by simp [go_sem], by simp [go_sem]⟩ (by simp [go_sem, gp, cw_ren]) ?_⟩
    rintro y rs ⟨rfl, rfl⟩
    simp (maxSteps := 1000000) (disch := omega) [go_sem, gp, cw_ren, cw_upd]
    refine ⟨⟨rfl, by simp [Try.f44]⟩, CallK_of [([0], [2]), ([1], [3])] hr2 (by simp [go_sem]) ⟨by simp [go_sem], by simp [go_sem]⟩ (by simp [go_sem, gp, cw_ren]) ?_⟩
    rintro y rs ⟨rfl, rfl⟩
    simp (maxSteps := 1000000) (disch := omega) [go_sem, gp, cw_ren, cw_upd]
    refine ⟨⟨rfl, by simp [Try.f43]⟩, CallK_of [] hd (by simp [go_sem]) ⟨by simp [go_sem], by simp [go_sem]⟩ (by simp [go_sem]) ?_⟩
    rintro y rs ⟨rfl, rfl⟩
    by_cases hF : 0 ≤ dF a b C
    · rw [if_pos hF] at hdS
      have hd2 : ∃ f t s e, dRow i a b C = .agg [.int .i64 i, .int .i64 f, .int .i64 t, .str s, .bool e] := ⟨_, _, _, _, by rw [dRow, if_neg (by omega)]⟩
      obtain ⟨f, t, s, e, hd2⟩ := hd2
      rw [hd2] at hdS ⊢
      simp (maxSteps := 1000000) (disch := omega) [go_sem, wrap64, cw_upd, hF]
      refine ⟨by omega, ?_⟩
      refine LoopK_next (i + 1) (by omega) (by simp [go_sem, LeS, leV, leR, leA, leL, leL_refl, cw_upd, hdS]) (by omega)
    · rw [if_neg hF] at hdS
      have hd2 : dRow i a b C = .agg [.int .i64 0, .int .i64 0, .int .i64 0, .str [], .bool false] := by rw [dRow, if_pos (by omega)]
      rw [hd2]
      simp (maxSteps := 1000000) (disch := omega) [go_sem, wrap64, cw_upd, hF]
      refine LoopK_next (i + 1) (by omega) (by simp [go_sem, LeS, leV, leR, leA, leL, leL_refl, cw_upd, hdS]) (by omega)
  · obtain rfl : i = R := by omega
    simp (maxSteps := 1000000) (disch := omega) [go_sem]
    exact ret_keep [[0], [1], [2], [3]] _ (by simp) (by simp [go_sem, resOf, leA]) ⟨rfl, by simp [go_sem, cw_upd], by simp [go_sem, cw_upd], by simp [go_sem, cw_upd], by simp [go_sem, cw_upd]⟩
theorem rows_no (R C N : Nat) (l : Row) (R' C' N' : Nat) (l' : Row) (hne : ¬ (R = R' ∧ C = C')) :
    CR Try.prog 17 [[0], [1], [2], [3]] [.lp [0] 0, .lp [2] 0] (gpp R C N l R' C' N' l') (fun x rs' => x = .p (.sl 5 []) ∧ rs' = gpp R C N l R' C' N' l') := by
  refine CR.gpp ?_
  have hs1 := size_cr R C N l
  have hs2 := size_cr R' C' N' l'
  refine CR_of_wp mixed 13 [31, 32] Try.func17 rfl (by kernel_rfl) rfl (by simp) (by simp) ?_
  simp (maxSteps := 1000000) (disch := omega) [go_sem, Try.f17, gpp]
  refine ⟨⟨rfl, by simp [Try.f42]⟩, CallK_of [([0], [0]), ([1], [1])] hs1 (by simp [go_sem]) ⟨by simp [go_sem], by simp [go_sem]⟩ (by simp [go_sem, gp, cw_ren]) ?_⟩
  rintro y rs ⟨rfl, rfl⟩
  simp (maxSteps := 1000000) (disch := omega) [go_sem, gp, cw_ren, cw_upd]
  refine ⟨⟨rfl, by simp [Try.f42]⟩, CallK_of [([0], [2]), ([1], [3])] hs2 (by simp [go_sem]) ⟨by simp [go_sem], by simp [go_sem]⟩ (by simp [go_sem, gp, cw_ren]) ?_⟩
  rintro y rs ⟨rfl, rfl⟩
  simp (maxSteps := 1000000) (disch := omega) [go_sem, gp, cw_ren, cw_upd]
  refine condK_split (fun h3 => ?_) (fun h3 => ?_)
  · simp (maxSteps := 1000000) (disch := omega) [go_sem]
    exact ret_keep [[0], [1], [2], [3]] _ (by simp) (by simp [go_sem, resOf, leA]) ⟨rfl, by simp [go_sem, cw_upd], by simp [go_sem, cw_upd], by simp [go_sem, cw_upd], by simp [go_sem, cw_upd]⟩
  · refine absurd ?_ hne
    simp at h3
    omega
theorem dF_self (a : Row) (i : Nat) : dF a a i = -1 := by
  induction i with
  | zero => rfl
  | succ i ih => rw [dF, if_neg (by simp), ih]
theorem dRs_self (C : Nat) (l : Row) (k : Nat) : dRs C l l k = [] := by
  induction k with
  | zero => rfl
  | succ k ih => rw [dRs, dF_self, if_neg (by omega), ih]
theorem rows_self (R C N : Nat) (l : Row) (hN : N = R * C) (hR : R ≤ 500) (hC : 0 < C ∧ C ≤ 1000) (hl : l.length = N) :
    CR Try.prog 17 [[0], [1]] [.lp [0] 0, .lp [0] 0] (gp R C N l) (fun x rs' => x = .p (.sl 5 []) ∧ rs' = gp R C N l) := by
  have hs1 := size_cr R C N l
  refine CR_of_wp mixed 13 [31, 32] Try.func17 rfl (by kernel_rfl) rfl (by simp) (by simp) ?_
  simp (maxSteps := 1000000) (disch := omega) [go_sem, Try.f17, gp]
  refine ⟨⟨rfl, by simp [Try.f42]⟩, CallK_of [([0], [0]), ([1], [1])] hs1 (by simp [go_sem]) ⟨by simp [go_sem], by simp [go_sem]⟩ (by simp [go_sem, gp, cw_ren]) ?_⟩
  rintro y rs ⟨rfl, rfl⟩
  simp (maxSteps := 1000000) (disch := omega) [go_sem, gp, cw_ren, cw_upd]
  refine ⟨⟨rfl, by simp [Try.f42]⟩, CallK_of [([0], [0]), ([1], [1])] hs1 (by simp [go_sem]) ⟨by simp [go_sem], by simp [go_sem]⟩ (by simp [go_sem, gp, cw_ren]) ?_⟩
  rintro y rs ⟨rfl, rfl⟩
  simp (maxSteps := 1000000) (disch := omega) [go_sem, gp, cw_ren, cw_upd]
  refine wpA_loop (fun i : Nat => i ≤ R) (fun i => { n := 53, nv := 13, vs := [(0, .lp [0] 0), (1, .lp [0] 0), (9, .os [9] 5 []), (31, .p (.int .i64 R)), (32, .p (.int .i64 i))], ts := [], rs := [([0], [.p (.int .i64 R), .p (.int .i64 C), .la [1] 2 0 N]), ([1], cw l)], pin := [[0], [1]], ex := [31, 32] }) (fun i => R - i) 0 (by simp) (by simp [go_sem, LeS, leV, leR, leA, leL, leL_refl, cw_upd]) ?_
  intro i hi
  simp (maxSteps := 1000000) (disch := omega) [go_sem]
  refine condK_if (fun h => ?_) (fun h => ?_)
  · have hi' : i < R := by omega
    have hr1 := grow_cr R C N l i hN hR hC hl hi'
    have hdf := dF_self (rowOf C l i) C
    have hd := drow_cr i C (rowOf C l i) (rowOf C l i) (rowOf_len (by omega) hi') (rowOf_len (by omega) hi') (by omega) (by rw [hdf]; omega)
    rw [dRow, hdf] at hd
    generalize rowOf C l i = a at *
    simp (maxSteps := 1000000) (disch := omega) [go_sem]
    refine ⟨⟨rfl, by simp [Try.f44]⟩, CallK_of [([0], [0]), ([1], [1])] hr1 (by simp [go_sem]) ⟨by simp [go_sem], by simp [go_sem]⟩ (by simp [go_sem, gp, cw_ren]) ?_⟩
    rintro y rs ⟨rfl, rfl⟩
    simp (maxSteps := 1000000) (disch := omega) [go_sem, gp, cw_ren, cw_upd]
    refine ⟨⟨rfl, by simp [Try.f44]⟩, CallK_of [([0], [0]), ([1], [1])] hr1 (by simp [go_sem]) ⟨by simp [go_sem], by simp [go_sem]⟩ (by simp [go_sem, gp, cw_ren]) ?_⟩
    rintro y rs ⟨rfl, rfl⟩
    simp (maxSteps := 1000000) (disch := omega) [go_sem, gp, cw_ren, cw_upd]
    refine ⟨⟨rfl, by simp [Try.f43]⟩, CallK_of [] hd (by simp [go_sem]) ⟨by simp [go_sem], by simp [go_sem]⟩ (by simp [go_sem]) ?_⟩
    rintro y rs ⟨rfl, rfl⟩
    simp (maxSteps := 1000000) (disch := omega) [go_sem, wrap64, cw_upd]
    refine LoopK_next (i + 1) (by omega) (by simp [go_sem, LeS, leV, leR, leA, leL, leL_refl, cw_upd]) (by omega)
  · obtain rfl : i = R := by omega
    simp (maxSteps := 1000000) (disch := omega) [go_sem]
    exact ret_keep [[0], [1]] _ (by simp) (by simp [go_sem, resOf, leA]) ⟨rfl, by simp [go_sem, cw_upd]⟩
end Go.Proofs.Ytjgfmanahimpoaa
