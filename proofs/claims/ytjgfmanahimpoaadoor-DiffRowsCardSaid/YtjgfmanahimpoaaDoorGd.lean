/- What the document's Erase does. Conditions: as each law says. -/
import Derived.Test.YtjgfmanahimpoaaDoorGa
namespace Go.Proofs.YtjgfmanahimpoaaDoor
open Go.AM
set_option maxHeartbeats 1600000
set_option maxRecDepth 10000
theorem erase1_cr (C : Nat) (r0 : Row) (r c : Int) (hC : C ≤ 1000) (l0 : r0.length = C) (o0 : OkR r0) : CR Tryd.prog 35 [[0], [1]] [.la [0] 1 0 1, .p (.int .i64 r), .p (.int .i64 c)] (g1 C r0)
    (fun v rs' => v = .tup [] ∧ rs' = g1 C (eraseI C 1 r c 0 r0)) := by
  refine CR_of_wp mixed 3 [] Tryd.func35 rfl (by kernel_rfl) rfl (by simp) (by simp) ?_
  by_cases hB : (0 ≤ r ∧ r < 1) ∧ 0 ≤ c
  · obtain ⟨⟨h0, h1⟩, h2⟩ := hB
    have hei : ∀ i l, eraseI C 1 r c i l = if r = (i : Int) then eraseP l c.toNat (C - c.toNat) else l := fun i l => by rw [eraseI]; exact if_pos ⟨⟨h0, h1⟩, h2⟩
    simp only [hei]
    obtain ⟨q, rfl⟩ : ∃ q : Nat, c = q := ⟨c.toNat, by omega⟩
    obtain ⟨k, rfl⟩ : ∃ k : Nat, r = k := ⟨r.toNat, by omega⟩
    have hk : k < 1 := by omega
    simp only [Int.toNat_natCast]
    clear hei
    rcases k with _ | k
    · simp (maxSteps := 1000000) (disch := omega) [go_sem, Tryd.f35, g1]
      refine wpA_loop (fun j : Nat => j ≤ C - q) (fun j => { n := 18, nv := 3, vs := [(0, .la [0] 1 0 1), (1, .p (.int .i64 0)), (2, .p (.int .i64 ((q : Int) + j)))], ts := [], rs := [([0], [.la [1] 2 0 C]), ([1], cw (eraseP r0 q j))], pin := [[0], [1]] }) (fun j => C - q - j) 0 (by simp) (by simp [go_sem, LeS, leV, leR, leA, leL, leL_refl, cw_upd, eraseP]) ?_
      intro j hj
      have hin := in1_cr C (eraseP r0 q j) 0 ((q : Int) + j) hC
      have lp := eraseP_len r0 q j
      have op := eraseP_ok r0 q j o0
      have es : eraseP r0 q (j + 1) = looseR (eraseP r0 q j) (q + j) := rfl
      simp (maxSteps := 1000000) (disch := omega) [go_sem]
      refine ⟨⟨rfl, by simp [Tryd.f49]⟩, CallK_of [([0], [0]), ([1], [1])] hin (by simp [go_sem]) ⟨by simp [go_sem], by simp [go_sem]⟩ (by simp [go_sem, g1, cw_ren]) ?_⟩
      rintro y rs ⟨rfl, rfl⟩
      simp (maxSteps := 1000000) (disch := omega) [go_sem, g1, cw_ren, cw_upd]
      refine condK_split (fun h => ?_) (fun h => ?_)
      · have hqj : q + j < C := by simp at h; omega
        have hlo := loose_c (eraseP r0 q j) (q + j) C (by omega) (by omega) hC op
        simp (maxSteps := 1000000) (disch := omega) [go_sem]
        refine ⟨⟨rfl, by simp [Tryd.f50]⟩, CallK_of [([0], [1])] hlo (by simp [go_sem]) ⟨by simp [go_sem], by simp [go_sem]⟩ (by simp [go_sem, rowRoot, cw_ren]) ?_⟩
        rintro y rs ⟨rfl, rfl⟩
        simp (maxSteps := 1000000) (disch := omega) [go_sem, wrap64, rowRoot, cw_ren, cw_upd]
        refine LoopK_next (j + 1) (by omega) (by simp [go_sem, LeS, leV, leR, leA, leL, leL_refl, cw_upd, es, cw_upd]; omega) (by omega)
      · have hqj : ¬ ((q : Int) + j < C) := by
          have : 0 ≤ (q : Int) + j := by omega
          simpa [this] using h
        obtain rfl : j = C - q := by omega
        simp (maxSteps := 1000000) (disch := omega) [go_sem]
        exact ret_keep [[0], [1]] _ (by simp) (by simp [go_sem, resOf]) ⟨rfl, by simp [go_sem, cw_upd]⟩
    · omega
  · have hei : ∀ i l, eraseI C 1 r c i l = l := fun i l => by rw [eraseI]; exact if_neg hB
    simp only [hei]
    have hin := in1_cr C r0 r c hC
    have hb : (decide (0 ≤ r) && decide (r < 1) && decide (0 ≤ c) && decide (c < C)) = false := by
      by_cases a : 0 ≤ r <;> by_cases b : r < 1 <;> by_cases d : 0 ≤ c <;> simp [a, b, d]
      exact absurd ⟨⟨a, b⟩, d⟩ hB
    rw [hb] at hin
    clear hei
    simp (maxSteps := 1000000) (disch := omega) [go_sem, Tryd.f35, g1]
    refine wpA_loop (fun j : Nat => j = 0) (fun j => { n := 18, nv := 3, vs := [(0, .la [0] 1 0 1), (1, .p (.int .i64 r)), (2, .p (.int .i64 c))], ts := [], rs := [([0], [.la [1] 2 0 C]), ([1], cw r0)], pin := [[0], [1]] }) (fun j => 0) 0 (by simp) (by simp [go_sem, LeS, leV, leR, leA, leL, leL_refl, cw_upd]) ?_
    rintro j rfl
    simp (maxSteps := 1000000) (disch := omega) [go_sem]
    refine ⟨⟨rfl, by simp [Tryd.f49]⟩, CallK_of [([0], [0]), ([1], [1])] hin (by simp [go_sem]) ⟨by simp [go_sem], by simp [go_sem]⟩ (by simp [go_sem, g1, cw_ren]) ?_⟩
    rintro y rs ⟨rfl, rfl⟩
    simp (maxSteps := 1000000) (disch := omega) [go_sem, g1, cw_ren, cw_upd]
    exact ret_keep [[0], [1]] _ (by simp) (by simp [go_sem, resOf]) ⟨rfl, by simp [go_sem, cw_upd]⟩
theorem erase2_cr (C : Nat) (r0 r1 : Row) (r c : Int) (hC : C ≤ 1000) (l0 : r0.length = C) (o0 : OkR r0) (l1 : r1.length = C) (o1 : OkR r1) : CR Tryd.prog 35 [[0], [1], [2]] [.la [0] 1 0 2, .p (.int .i64 r), .p (.int .i64 c)] (g2 C r0 r1)
    (fun v rs' => v = .tup [] ∧ rs' = g2 C (eraseI C 2 r c 0 r0) (eraseI C 2 r c 1 r1)) := by
  refine CR_of_wp mixed 3 [] Tryd.func35 rfl (by kernel_rfl) rfl (by simp) (by simp) ?_
  by_cases hB : (0 ≤ r ∧ r < 2) ∧ 0 ≤ c
  · obtain ⟨⟨h0, h1⟩, h2⟩ := hB
    have hei : ∀ i l, eraseI C 2 r c i l = if r = (i : Int) then eraseP l c.toNat (C - c.toNat) else l := fun i l => by rw [eraseI]; exact if_pos ⟨⟨h0, h1⟩, h2⟩
    simp only [hei]
    obtain ⟨q, rfl⟩ : ∃ q : Nat, c = q := ⟨c.toNat, by omega⟩
    obtain ⟨k, rfl⟩ : ∃ k : Nat, r = k := ⟨r.toNat, by omega⟩
    have hk : k < 2 := by omega
    simp only [Int.toNat_natCast]
    clear hei
    rcases k with _ | _ | k
    · simp (maxSteps := 1000000) (disch := omega) [go_sem, Tryd.f35, g2]
      refine wpA_loop (fun j : Nat => j ≤ C - q) (fun j => { n := 18, nv := 3, vs := [(0, .la [0] 1 0 2), (1, .p (.int .i64 0)), (2, .p (.int .i64 ((q : Int) + j)))], ts := [], rs := [([0], [.la [1] 2 0 C, .la [2] 2 0 C]), ([1], cw (eraseP r0 q j)), ([2], cw r1)], pin := [[0], [1], [2]] }) (fun j => C - q - j) 0 (by simp) (by simp [go_sem, LeS, leV, leR, leA, leL, leL_refl, cw_upd, eraseP]) ?_
      intro j hj
      have hin := in2_cr C (eraseP r0 q j) r1 0 ((q : Int) + j) hC
      have lp := eraseP_len r0 q j
      have op := eraseP_ok r0 q j o0
      have es : eraseP r0 q (j + 1) = looseR (eraseP r0 q j) (q + j) := rfl
      simp (maxSteps := 1000000) (disch := omega) [go_sem]
      refine ⟨⟨rfl, by simp [Tryd.f49]⟩, CallK_of [([0], [0]), ([1], [1]), ([2], [2])] hin (by simp [go_sem]) ⟨by simp [go_sem], by simp [go_sem]⟩ (by simp [go_sem, g2, cw_ren]) ?_⟩
      rintro y rs ⟨rfl, rfl⟩
      simp (maxSteps := 1000000) (disch := omega) [go_sem, g2, cw_ren, cw_upd]
      refine condK_split (fun h => ?_) (fun h => ?_)
      · have hqj : q + j < C := by simp at h; omega
        have hlo := loose_c (eraseP r0 q j) (q + j) C (by omega) (by omega) hC op
        simp (maxSteps := 1000000) (disch := omega) [go_sem]
        refine ⟨⟨rfl, by simp [Tryd.f50]⟩, CallK_of [([0], [1])] hlo (by simp [go_sem]) ⟨by simp [go_sem], by simp [go_sem]⟩ (by simp [go_sem, rowRoot, cw_ren]) ?_⟩
        rintro y rs ⟨rfl, rfl⟩
        simp (maxSteps := 1000000) (disch := omega) [go_sem, wrap64, rowRoot, cw_ren, cw_upd]
        refine LoopK_next (j + 1) (by omega) (by simp [go_sem, LeS, leV, leR, leA, leL, leL_refl, cw_upd, es, cw_upd]; omega) (by omega)
      · have hqj : ¬ ((q : Int) + j < C) := by
          have : 0 ≤ (q : Int) + j := by omega
          simpa [this] using h
        obtain rfl : j = C - q := by omega
        simp (maxSteps := 1000000) (disch := omega) [go_sem]
        exact ret_keep [[0], [1], [2]] _ (by simp) (by simp [go_sem, resOf]) ⟨rfl, by simp [go_sem, cw_upd]⟩
    · simp (maxSteps := 1000000) (disch := omega) [go_sem, Tryd.f35, g2]
      refine wpA_loop (fun j : Nat => j ≤ C - q) (fun j => { n := 18, nv := 3, vs := [(0, .la [0] 1 0 2), (1, .p (.int .i64 1)), (2, .p (.int .i64 ((q : Int) + j)))], ts := [], rs := [([0], [.la [1] 2 0 C, .la [2] 2 0 C]), ([1], cw r0), ([2], cw (eraseP r1 q j))], pin := [[0], [1], [2]] }) (fun j => C - q - j) 0 (by simp) (by simp [go_sem, LeS, leV, leR, leA, leL, leL_refl, cw_upd, eraseP]) ?_
      intro j hj
      have hin := in2_cr C r0 (eraseP r1 q j) 1 ((q : Int) + j) hC
      have lp := eraseP_len r1 q j
      have op := eraseP_ok r1 q j o1
      have es : eraseP r1 q (j + 1) = looseR (eraseP r1 q j) (q + j) := rfl
      simp (maxSteps := 1000000) (disch := omega) [go_sem]
      refine ⟨⟨rfl, by simp [Tryd.f49]⟩, CallK_of [([0], [0]), ([1], [1]), ([2], [2])] hin (by simp [go_sem]) ⟨by simp [go_sem], by simp [go_sem]⟩ (by simp [go_sem, g2, cw_ren]) ?_⟩
      rintro y rs ⟨rfl, rfl⟩
      simp (maxSteps := 1000000) (disch := omega) [go_sem, g2, cw_ren, cw_upd]
      refine condK_split (fun h => ?_) (fun h => ?_)
      · have hqj : q + j < C := by simp at h; omega
        have hlo := loose_c (eraseP r1 q j) (q + j) C (by omega) (by omega) hC op
        simp (maxSteps := 1000000) (disch := omega) [go_sem]
        refine ⟨⟨rfl, by simp [Tryd.f50]⟩, CallK_of [([0], [2])] hlo (by simp [go_sem]) ⟨by simp [go_sem], by simp [go_sem]⟩ (by simp [go_sem, rowRoot, cw_ren]) ?_⟩
        rintro y rs ⟨rfl, rfl⟩
        simp (maxSteps := 1000000) (disch := omega) [go_sem, wrap64, rowRoot, cw_ren, cw_upd]
        refine LoopK_next (j + 1) (by omega) (by simp [go_sem, LeS, leV, leR, leA, leL, leL_refl, cw_upd, es, cw_upd]; omega) (by omega)
      · have hqj : ¬ ((q : Int) + j < C) := by
          have : 0 ≤ (q : Int) + j := by omega
          simpa [this] using h
        obtain rfl : j = C - q := by omega
        simp (maxSteps := 1000000) (disch := omega) [go_sem]
        exact ret_keep [[0], [1], [2]] _ (by simp) (by simp [go_sem, resOf]) ⟨rfl, by simp [go_sem, cw_upd]⟩
    · omega
  · have hei : ∀ i l, eraseI C 2 r c i l = l := fun i l => by rw [eraseI]; exact if_neg hB
    simp only [hei]
    have hin := in2_cr C r0 r1 r c hC
    have hb : (decide (0 ≤ r) && decide (r < 2) && decide (0 ≤ c) && decide (c < C)) = false := by
      by_cases a : 0 ≤ r <;> by_cases b : r < 2 <;> by_cases d : 0 ≤ c <;> simp [a, b, d]
      exact absurd ⟨⟨a, b⟩, d⟩ hB
    rw [hb] at hin
    clear hei
    simp (maxSteps := 1000000) (disch := omega) [go_sem, Tryd.f35, g2]
    refine wpA_loop (fun j : Nat => j = 0) (fun j => { n := 18, nv := 3, vs := [(0, .la [0] 1 0 2), (1, .p (.int .i64 r)), (2, .p (.int .i64 c))], ts := [], rs := [([0], [.la [1] 2 0 C, .la [2] 2 0 C]), ([1], cw r0), ([2], cw r1)], pin := [[0], [1], [2]] }) (fun j => 0) 0 (by simp) (by simp [go_sem, LeS, leV, leR, leA, leL, leL_refl, cw_upd]) ?_
    rintro j rfl
    simp (maxSteps := 1000000) (disch := omega) [go_sem]
    refine ⟨⟨rfl, by simp [Tryd.f49]⟩, CallK_of [([0], [0]), ([1], [1]), ([2], [2])] hin (by simp [go_sem]) ⟨by simp [go_sem], by simp [go_sem]⟩ (by simp [go_sem, g2, cw_ren]) ?_⟩
    rintro y rs ⟨rfl, rfl⟩
    simp (maxSteps := 1000000) (disch := omega) [go_sem, g2, cw_ren, cw_upd]
    exact ret_keep [[0], [1], [2]] _ (by simp) (by simp [go_sem, resOf]) ⟨rfl, by simp [go_sem, cw_upd]⟩
theorem erase3_cr (C : Nat) (r0 r1 r2 : Row) (r c : Int) (hC : C ≤ 1000) (l0 : r0.length = C) (o0 : OkR r0) (l1 : r1.length = C) (o1 : OkR r1) (l2 : r2.length = C) (o2 : OkR r2) : CR Tryd.prog 35 [[0], [1], [2], [3]] [.la [0] 1 0 3, .p (.int .i64 r), .p (.int .i64 c)] (g3 C r0 r1 r2)
    (fun v rs' => v = .tup [] ∧ rs' = g3 C (eraseI C 3 r c 0 r0) (eraseI C 3 r c 1 r1) (eraseI C 3 r c 2 r2)) := by
  refine CR_of_wp mixed 3 [] Tryd.func35 rfl (by kernel_rfl) rfl (by simp) (by simp) ?_
  by_cases hB : (0 ≤ r ∧ r < 3) ∧ 0 ≤ c
  · obtain ⟨⟨h0, h1⟩, h2⟩ := hB
    have hei : ∀ i l, eraseI C 3 r c i l = if r = (i : Int) then eraseP l c.toNat (C - c.toNat) else l := fun i l => by rw [eraseI]; exact if_pos ⟨⟨h0, h1⟩, h2⟩
    simp only [hei]
    obtain ⟨q, rfl⟩ : ∃ q : Nat, c = q := ⟨c.toNat, by omega⟩
    obtain ⟨k, rfl⟩ : ∃ k : Nat, r = k := ⟨r.toNat, by omega⟩
    have hk : k < 3 := by omega
    simp only [Int.toNat_natCast]
    clear hei
    rcases k with _ | _ | _ | k
    · simp (maxSteps := 1000000) (disch := omega) [go_sem, Tryd.f35, g3]
      refine wpA_loop (fun j : Nat => j ≤ C - q) (fun j => { n := 18, nv := 3, vs := [(0, .la [0] 1 0 3), (1, .p (.int .i64 0)), (2, .p (.int .i64 ((q : Int) + j)))], ts := [], rs := [([0], [.la [1] 2 0 C, .la [2] 2 0 C, .la [3] 2 0 C]), ([1], cw (eraseP r0 q j)), ([2], cw r1), ([3], cw r2)], pin := [[0], [1], [2], [3]] }) (fun j => C - q - j) 0 (by simp) (by simp [go_sem, LeS, leV, leR, leA, leL, leL_refl, cw_upd, eraseP]) ?_
      intro j hj
      have hin := in3_cr C (eraseP r0 q j) r1 r2 0 ((q : Int) + j) hC
      have lp := eraseP_len r0 q j
      have op := eraseP_ok r0 q j o0
      have es : eraseP r0 q (j + 1) = looseR (eraseP r0 q j) (q + j) := rfl
      simp (maxSteps := 1000000) (disch := omega) [go_sem]
      refine ⟨⟨rfl, by simp [Tryd.f49]⟩, CallK_of [([0], [0]), ([1], [1]), ([2], [2]), ([3], [3])] hin (by simp [go_sem]) ⟨by simp [go_sem], by simp [go_sem]⟩ (by simp [go_sem, g3, cw_ren]) ?_⟩
      rintro y rs ⟨rfl, rfl⟩
      simp (maxSteps := 1000000) (disch := omega) [go_sem, g3, cw_ren, cw_upd]
      refine condK_split (fun h => ?_) (fun h => ?_)
      · have hqj : q + j < C := by simp at h; omega
        have hlo := loose_c (eraseP r0 q j) (q + j) C (by omega) (by omega) hC op
        simp (maxSteps := 1000000) (disch := omega) [go_sem]
        refine ⟨⟨rfl, by simp [Tryd.f50]⟩, CallK_of [([0], [1])] hlo (by simp [go_sem]) ⟨by simp [go_sem], by simp [go_sem]⟩ (by simp [go_sem, rowRoot, cw_ren]) ?_⟩
        rintro y rs ⟨rfl, rfl⟩
        simp (maxSteps := 1000000) (disch := omega) [go_sem, wrap64, rowRoot, cw_ren, cw_upd]
        refine LoopK_next (j + 1) (by omega) (by simp [go_sem, LeS, leV, leR, leA, leL, leL_refl, cw_upd, es, cw_upd]; omega) (by omega)
      · have hqj : ¬ ((q : Int) + j < C) := by
          have : 0 ≤ (q : Int) + j := by omega
          simpa [this] using h
        obtain rfl : j = C - q := by omega
        simp (maxSteps := 1000000) (disch := omega) [go_sem]
        exact ret_keep [[0], [1], [2], [3]] _ (by simp) (by simp [go_sem, resOf]) ⟨rfl, by simp [go_sem, cw_upd]⟩
    · simp (maxSteps := 1000000) (disch := omega) [go_sem, Tryd.f35, g3]
      refine wpA_loop (fun j : Nat => j ≤ C - q) (fun j => { n := 18, nv := 3, vs := [(0, .la [0] 1 0 3), (1, .p (.int .i64 1)), (2, .p (.int .i64 ((q : Int) + j)))], ts := [], rs := [([0], [.la [1] 2 0 C, .la [2] 2 0 C, .la [3] 2 0 C]), ([1], cw r0), ([2], cw (eraseP r1 q j)), ([3], cw r2)], pin := [[0], [1], [2], [3]] }) (fun j => C - q - j) 0 (by simp) (by simp [go_sem, LeS, leV, leR, leA, leL, leL_refl, cw_upd, eraseP]) ?_
      intro j hj
      have hin := in3_cr C r0 (eraseP r1 q j) r2 1 ((q : Int) + j) hC
      have lp := eraseP_len r1 q j
      have op := eraseP_ok r1 q j o1
      have es : eraseP r1 q (j + 1) = looseR (eraseP r1 q j) (q + j) := rfl
      simp (maxSteps := 1000000) (disch := omega) [go_sem]
      refine ⟨⟨rfl, by simp [Tryd.f49]⟩, CallK_of [([0], [0]), ([1], [1]), ([2], [2]), ([3], [3])] hin (by simp [go_sem]) ⟨by simp [go_sem], by simp [go_sem]⟩ (by simp [go_sem, g3, cw_ren]) ?_⟩
      rintro y rs ⟨rfl, rfl⟩
      simp (maxSteps := 1000000) (disch := omega) [go_sem, g3, cw_ren, cw_upd]
      refine condK_split (fun h => ?_) (fun h => ?_)
      · have hqj : q + j < C := by simp at h; omega
        have hlo := loose_c (eraseP r1 q j) (q + j) C (by omega) (by omega) hC op
        simp (maxSteps := 1000000) (disch := omega) [go_sem]
        refine ⟨⟨rfl, by simp [Tryd.f50]⟩, CallK_of [([0], [2])] hlo (by simp [go_sem]) ⟨by simp [go_sem], by simp [go_sem]⟩ (by simp [go_sem, rowRoot, cw_ren]) ?_⟩
        rintro y rs ⟨rfl, rfl⟩
        simp (maxSteps := 1000000) (disch := omega) [go_sem, wrap64, rowRoot, cw_ren, cw_upd]
        refine LoopK_next (j + 1) (by omega) (by simp [go_sem, LeS, leV, leR, leA, leL, leL_refl, cw_upd, es, cw_upd]; omega) (by omega)
      · have hqj : ¬ ((q : Int) + j < C) := by
          have : 0 ≤ (q : Int) + j := by omega
          simpa [this] using h
        obtain rfl : j = C - q := by omega
        simp (maxSteps := 1000000) (disch := omega) [go_sem]
        exact ret_keep [[0], [1], [2], [3]] _ (by simp) (by simp [go_sem, resOf]) ⟨rfl, by simp [go_sem, cw_upd]⟩
    · simp (maxSteps := 1000000) (disch := omega) [go_sem, Tryd.f35, g3]
      refine wpA_loop (fun j : Nat => j ≤ C - q) (fun j => { n := 18, nv := 3, vs := [(0, .la [0] 1 0 3), (1, .p (.int .i64 2)), (2, .p (.int .i64 ((q : Int) + j)))], ts := [], rs := [([0], [.la [1] 2 0 C, .la [2] 2 0 C, .la [3] 2 0 C]), ([1], cw r0), ([2], cw r1), ([3], cw (eraseP r2 q j))], pin := [[0], [1], [2], [3]] }) (fun j => C - q - j) 0 (by simp) (by simp [go_sem, LeS, leV, leR, leA, leL, leL_refl, cw_upd, eraseP]) ?_
      intro j hj
      have hin := in3_cr C r0 r1 (eraseP r2 q j) 2 ((q : Int) + j) hC
      have lp := eraseP_len r2 q j
      have op := eraseP_ok r2 q j o2
      have es : eraseP r2 q (j + 1) = looseR (eraseP r2 q j) (q + j) := rfl
      simp (maxSteps := 1000000) (disch := omega) [go_sem]
      refine ⟨⟨rfl, by simp [Tryd.f49]⟩, CallK_of [([0], [0]), ([1], [1]), ([2], [2]), ([3], [3])] hin (by simp [go_sem]) ⟨by simp [go_sem], by simp [go_sem]⟩ (by simp [go_sem, g3, cw_ren]) ?_⟩
      rintro y rs ⟨rfl, rfl⟩
      simp (maxSteps := 1000000) (disch := omega) [go_sem, g3, cw_ren, cw_upd]
      refine condK_split (fun h => ?_) (fun h => ?_)
      · have hqj : q + j < C := by simp at h; omega
        have hlo := loose_c (eraseP r2 q j) (q + j) C (by omega) (by omega) hC op
        simp (maxSteps := 1000000) (disch := omega) [go_sem]
        refine ⟨⟨rfl, by simp [Tryd.f50]⟩, CallK_of [([0], [3])] hlo (by simp [go_sem]) ⟨by simp [go_sem], by simp [go_sem]⟩ (by simp [go_sem, rowRoot, cw_ren]) ?_⟩
        rintro y rs ⟨rfl, rfl⟩
        simp (maxSteps := 1000000) (disch := omega) [go_sem, wrap64, rowRoot, cw_ren, cw_upd]
        refine LoopK_next (j + 1) (by omega) (by simp [go_sem, LeS, leV, leR, leA, leL, leL_refl, cw_upd, es, cw_upd]; omega) (by omega)
      · have hqj : ¬ ((q : Int) + j < C) := by
          have : 0 ≤ (q : Int) + j := by omega
          simpa [this] using h
        obtain rfl : j = C - q := by omega
        simp (maxSteps := 1000000) (disch := omega) [go_sem]
        exact ret_keep [[0], [1], [2], [3]] _ (by simp) (by simp [go_sem, resOf]) ⟨rfl, by simp [go_sem, cw_upd]⟩
    · omega
  · have hei : ∀ i l, eraseI C 3 r c i l = l := fun i l => by rw [eraseI]; exact if_neg hB
    simp only [hei]
    have hin := in3_cr C r0 r1 r2 r c hC
    have hb : (decide (0 ≤ r) && decide (r < 3) && decide (0 ≤ c) && decide (c < C)) = false := by
      by_cases a : 0 ≤ r <;> by_cases b : r < 3 <;> by_cases d : 0 ≤ c <;> simp [a, b, d]
      exact absurd ⟨⟨a, b⟩, d⟩ hB
    rw [hb] at hin
    clear hei
    simp (maxSteps := 1000000) (disch := omega) [go_sem, Tryd.f35, g3]
    refine wpA_loop (fun j : Nat => j = 0) (fun j => { n := 18, nv := 3, vs := [(0, .la [0] 1 0 3), (1, .p (.int .i64 r)), (2, .p (.int .i64 c))], ts := [], rs := [([0], [.la [1] 2 0 C, .la [2] 2 0 C, .la [3] 2 0 C]), ([1], cw r0), ([2], cw r1), ([3], cw r2)], pin := [[0], [1], [2], [3]] }) (fun j => 0) 0 (by simp) (by simp [go_sem, LeS, leV, leR, leA, leL, leL_refl, cw_upd]) ?_
    rintro j rfl
    simp (maxSteps := 1000000) (disch := omega) [go_sem]
    refine ⟨⟨rfl, by simp [Tryd.f49]⟩, CallK_of [([0], [0]), ([1], [1]), ([2], [2]), ([3], [3])] hin (by simp [go_sem]) ⟨by simp [go_sem], by simp [go_sem]⟩ (by simp [go_sem, g3, cw_ren]) ?_⟩
    rintro y rs ⟨rfl, rfl⟩
    simp (maxSteps := 1000000) (disch := omega) [go_sem, g3, cw_ren, cw_upd]
    exact ret_keep [[0], [1], [2], [3]] _ (by simp) (by simp [go_sem, resOf]) ⟨rfl, by simp [go_sem, cw_upd]⟩
theorem erase4_cr (C : Nat) (r0 r1 r2 r3 : Row) (r c : Int) (hC : C ≤ 1000) (l0 : r0.length = C) (o0 : OkR r0) (l1 : r1.length = C) (o1 : OkR r1) (l2 : r2.length = C) (o2 : OkR r2) (l3 : r3.length = C) (o3 : OkR r3) : CR Tryd.prog 35 [[0], [1], [2], [3], [4]] [.la [0] 1 0 4, .p (.int .i64 r), .p (.int .i64 c)] (g4 C r0 r1 r2 r3)
    (fun v rs' => v = .tup [] ∧ rs' = g4 C (eraseI C 4 r c 0 r0) (eraseI C 4 r c 1 r1) (eraseI C 4 r c 2 r2) (eraseI C 4 r c 3 r3)) := by
  refine CR_of_wp mixed 3 [] Tryd.func35 rfl (by kernel_rfl) rfl (by simp) (by simp) ?_
  by_cases hB : (0 ≤ r ∧ r < 4) ∧ 0 ≤ c
  · obtain ⟨⟨h0, h1⟩, h2⟩ := hB
    have hei : ∀ i l, eraseI C 4 r c i l = if r = (i : Int) then eraseP l c.toNat (C - c.toNat) else l := fun i l => by rw [eraseI]; exact if_pos ⟨⟨h0, h1⟩, h2⟩
    simp only [hei]
    obtain ⟨q, rfl⟩ : ∃ q : Nat, c = q := ⟨c.toNat, by omega⟩
    obtain ⟨k, rfl⟩ : ∃ k : Nat, r = k := ⟨r.toNat, by omega⟩
    have hk : k < 4 := by omega
    simp only [Int.toNat_natCast]
    clear hei
    rcases k with _ | _ | _ | _ | k
    · simp (maxSteps := 1000000) (disch := omega) [go_sem, Tryd.f35, g4]
      refine wpA_loop (fun j : Nat => j ≤ C - q) (fun j => { n := 18, nv := 3, vs := [(0, .la [0] 1 0 4), (1, .p (.int .i64 0)), (2, .p (.int .i64 ((q : Int) + j)))], ts := [], rs := [([0], [.la [1] 2 0 C, .la [2] 2 0 C, .la [3] 2 0 C, .la [4] 2 0 C]), ([1], cw (eraseP r0 q j)), ([2], cw r1), ([3], cw r2), ([4], cw r3)], pin := [[0], [1], [2], [3], [4]] }) (fun j => C - q - j) 0 (by simp) (by simp [go_sem, LeS, leV, leR, leA, leL, leL_refl, cw_upd, eraseP]) ?_
      intro j hj
      have hin := in4_cr C (eraseP r0 q j) r1 r2 r3 0 ((q : Int) + j) hC
      have lp := eraseP_len r0 q j
      have op := eraseP_ok r0 q j o0
      have es : eraseP r0 q (j + 1) = looseR (eraseP r0 q j) (q + j) := rfl
      simp (maxSteps := 1000000) (disch := omega) [go_sem]
      refine ⟨⟨rfl, by simp [Tryd.f49]⟩, CallK_of [([0], [0]), ([1], [1]), ([2], [2]), ([3], [3]), ([4], [4])] hin (by simp [go_sem]) ⟨by simp [go_sem], by simp [go_sem]⟩ (by simp [go_sem, g4, cw_ren]) ?_⟩
      rintro y rs ⟨rfl, rfl⟩
      simp (maxSteps := 1000000) (disch := omega) [go_sem, g4, cw_ren, cw_upd]
      refine condK_split (fun h => ?_) (fun h => ?_)
      · have hqj : q + j < C := by simp at h; omega
        have hlo := loose_c (eraseP r0 q j) (q + j) C (by omega) (by omega) hC op
        simp (maxSteps := 1000000) (disch := omega) [go_sem]
        refine ⟨⟨rfl, by simp [Tryd.f50]⟩, CallK_of [([0], [1])] hlo (by simp [go_sem]) ⟨by simp [go_sem], by simp [go_sem]⟩ (by simp [go_sem, rowRoot, cw_ren]) ?_⟩
        rintro y rs ⟨rfl, rfl⟩
        simp (maxSteps := 1000000) (disch := omega) [go_sem, wrap64, rowRoot, cw_ren, cw_upd]
        refine LoopK_next (j + 1) (by omega) (by simp [go_sem, LeS, leV, leR, leA, leL, leL_refl, cw_upd, es, cw_upd]; omega) (by omega)
      · have hqj : ¬ ((q : Int) + j < C) := by
          have : 0 ≤ (q : Int) + j := by omega
          simpa [this] using h
        obtain rfl : j = C - q := by omega
        simp (maxSteps := 1000000) (disch := omega) [go_sem]
        exact ret_keep [[0], [1], [2], [3], [4]] _ (by simp) (by simp [go_sem, resOf]) ⟨rfl, by simp [go_sem, cw_upd]⟩
    · simp (maxSteps := 1000000) (disch := omega) [go_sem, Tryd.f35, g4]
      refine wpA_loop (fun j : Nat => j ≤ C - q) (fun j => { n := 18, nv := 3, vs := [(0, .la [0] 1 0 4), (1, .p (.int .i64 1)), (2, .p (.int .i64 ((q : Int) + j)))], ts := [], rs := [([0], [.la [1] 2 0 C, .la [2] 2 0 C, .la [3] 2 0 C, .la [4] 2 0 C]), ([1], cw r0), ([2], cw (eraseP r1 q j)), ([3], cw r2), ([4], cw r3)], pin := [[0], [1], [2], [3], [4]] }) (fun j => C - q - j) 0 (by simp) (by simp [go_sem, LeS, leV, leR, leA, leL, leL_refl, cw_upd, eraseP]) ?_
      intro j hj
      have hin := in4_cr C r0 (eraseP r1 q j) r2 r3 1 ((q : Int) + j) hC
      have lp := eraseP_len r1 q j
      have op := eraseP_ok r1 q j o1
      have es : eraseP r1 q (j + 1) = looseR (eraseP r1 q j) (q + j) := rfl
      simp (maxSteps := 1000000) (disch := omega) [go_sem]
      refine ⟨⟨rfl, by simp [Tryd.f49]⟩, CallK_of [([0], [0]), ([1], [1]), ([2], [2]), ([3], [3]), ([4], [4])] hin (by simp [go_sem]) ⟨by simp [go_sem], by simp [go_sem]⟩ (by simp [go_sem, g4, cw_ren]) ?_⟩
      rintro y rs ⟨rfl, rfl⟩
      simp (maxSteps := 1000000) (disch := omega) [go_sem, g4, cw_ren, cw_upd]
      refine condK_split (fun h => ?_) (fun h => ?_)
      · have hqj : q + j < C := by simp at h; omega
        have hlo := loose_c (eraseP r1 q j) (q + j) C (by omega) (by omega) hC op
        simp (maxSteps := 1000000) (disch := omega) [go_sem]
        refine ⟨⟨rfl, by simp [Tryd.f50]⟩, CallK_of [([0], [2])] hlo (by simp [go_sem]) ⟨by simp [go_sem], by simp [go_sem]⟩ (by simp [go_sem, rowRoot, cw_ren]) ?_⟩
        rintro y rs ⟨rfl, rfl⟩
        simp (maxSteps := 1000000) (disch := omega) [go_sem, wrap64, rowRoot, cw_ren, cw_upd]
        refine LoopK_next (j + 1) (by omega) (by simp [go_sem, LeS, leV, leR, leA, leL, leL_refl, cw_upd, es, cw_upd]; omega) (by omega)
      · have hqj : ¬ ((q : Int) + j < C) := by
          have : 0 ≤ (q : Int) + j := by omega
          simpa [this] using h
        obtain rfl : j = C - q := by omega
        simp (maxSteps := 1000000) (disch := omega) [go_sem]
        exact ret_keep [[0], [1], [2], [3], [4]] _ (by simp) (by simp [go_sem, resOf]) ⟨rfl, by simp [go_sem, cw_upd]⟩
    · simp (maxSteps := 1000000) (disch := omega) [go_sem, Tryd.f35, g4]
      refine wpA_loop (fun j : Nat => j ≤ C - q) (fun j => { n := 18, nv := 3, vs := [(0, .la [0] 1 0 4), (1, .p (.int .i64 2)), (2, .p (.int .i64 ((q : Int) + j)))], ts := [], rs := [([0], [.la [1] 2 0 C, .la [2] 2 0 C, .la [3] 2 0 C, .la [4] 2 0 C]), ([1], cw r0), ([2], cw r1), ([3], cw (eraseP r2 q j)), ([4], cw r3)], pin := [[0], [1], [2], [3], [4]] }) (fun j => C - q - j) 0 (by simp) (by simp [go_sem, LeS, leV, leR, leA, leL, leL_refl, cw_upd, eraseP]) ?_
      intro j hj
      have hin := in4_cr C r0 r1 (eraseP r2 q j) r3 2 ((q : Int) + j) hC
      have lp := eraseP_len r2 q j
      have op := eraseP_ok r2 q j o2
      have es : eraseP r2 q (j + 1) = looseR (eraseP r2 q j) (q + j) := rfl
      simp (maxSteps := 1000000) (disch := omega) [go_sem]
      refine ⟨⟨rfl, by simp [Tryd.f49]⟩, CallK_of [([0], [0]), ([1], [1]), ([2], [2]), ([3], [3]), ([4], [4])] hin (by simp [go_sem]) ⟨by simp [go_sem], by simp [go_sem]⟩ (by simp [go_sem, g4, cw_ren]) ?_⟩
      rintro y rs ⟨rfl, rfl⟩
      simp (maxSteps := 1000000) (disch := omega) [go_sem, g4, cw_ren, cw_upd]
      refine condK_split (fun h => ?_) (fun h => ?_)
      · have hqj : q + j < C := by simp at h; omega
        have hlo := loose_c (eraseP r2 q j) (q + j) C (by omega) (by omega) hC op
        simp (maxSteps := 1000000) (disch := omega) [go_sem]
        refine ⟨⟨rfl, by simp [Tryd.f50]⟩, CallK_of [([0], [3])] hlo (by simp [go_sem]) ⟨by simp [go_sem], by simp [go_sem]⟩ (by simp [go_sem, rowRoot, cw_ren]) ?_⟩
        rintro y rs ⟨rfl, rfl⟩
        simp (maxSteps := 1000000) (disch := omega) [go_sem, wrap64, rowRoot, cw_ren, cw_upd]
        refine LoopK_next (j + 1) (by omega) (by simp [go_sem, LeS, leV, leR, leA, leL, leL_refl, cw_upd, es, cw_upd]; omega) (by omega)
      · have hqj : ¬ ((q : Int) + j < C) := by
          have : 0 ≤ (q : Int) + j := by omega
          simpa [this] using h
        obtain rfl : j = C - q := by omega
        simp (maxSteps := 1000000) (disch := omega) [go_sem]
        exact ret_keep [[0], [1], [2], [3], [4]] _ (by simp) (by simp [go_sem, resOf]) ⟨rfl, by simp [go_sem, cw_upd]⟩
    · simp (maxSteps := 1000000) (disch := omega) [go_sem, Tryd.f35, g4]
      refine wpA_loop (fun j : Nat => j ≤ C - q) (fun j => { n := 18, nv := 3, vs := [(0, .la [0] 1 0 4), (1, .p (.int .i64 3)), (2, .p (.int .i64 ((q : Int) + j)))], ts := [], rs := [([0], [.la [1] 2 0 C, .la [2] 2 0 C, .la [3] 2 0 C, .la [4] 2 0 C]), ([1], cw r0), ([2], cw r1), ([3], cw r2), ([4], cw (eraseP r3 q j))], pin := [[0], [1], [2], [3], [4]] }) (fun j => C - q - j) 0 (by simp) (by simp [go_sem, LeS, leV, leR, leA, leL, leL_refl, cw_upd, eraseP]) ?_
      intro j hj
      have hin := in4_cr C r0 r1 r2 (eraseP r3 q j) 3 ((q : Int) + j) hC
      have lp := eraseP_len r3 q j
      have op := eraseP_ok r3 q j o3
      have es : eraseP r3 q (j + 1) = looseR (eraseP r3 q j) (q + j) := rfl
      simp (maxSteps := 1000000) (disch := omega) [go_sem]
      refine ⟨⟨rfl, by simp [Tryd.f49]⟩, CallK_of [([0], [0]), ([1], [1]), ([2], [2]), ([3], [3]), ([4], [4])] hin (by simp [go_sem]) ⟨by simp [go_sem], by simp [go_sem]⟩ (by simp [go_sem, g4, cw_ren]) ?_⟩
      rintro y rs ⟨rfl, rfl⟩
      simp (maxSteps := 1000000) (disch := omega) [go_sem, g4, cw_ren, cw_upd]
      refine condK_split (fun h => ?_) (fun h => ?_)
      · have hqj : q + j < C := by simp at h; omega
        have hlo := loose_c (eraseP r3 q j) (q + j) C (by omega) (by omega) hC op
        simp (maxSteps := 1000000) (disch := omega) [go_sem]
        refine ⟨⟨rfl, by simp [Tryd.f50]⟩, CallK_of [([0], [4])] hlo (by simp [go_sem]) ⟨by simp [go_sem], by simp [go_sem]⟩ (by simp [go_sem, rowRoot, cw_ren]) ?_⟩
        rintro y rs ⟨rfl, rfl⟩
        simp (maxSteps := 1000000) (disch := omega) [go_sem, wrap64, rowRoot, cw_ren, cw_upd]
        refine LoopK_next (j + 1) (by omega) (by simp [go_sem, LeS, leV, leR, leA, leL, leL_refl, cw_upd, es, cw_upd]; omega) (by omega)
      · have hqj : ¬ ((q : Int) + j < C) := by
          have : 0 ≤ (q : Int) + j := by omega
          simpa [this] using h
        obtain rfl : j = C - q := by omega
        simp (maxSteps := 1000000) (disch := omega) [go_sem]
        exact ret_keep [[0], [1], [2], [3], [4]] _ (by simp) (by simp [go_sem, resOf]) ⟨rfl, by simp [go_sem, cw_upd]⟩
    · omega
  · have hei : ∀ i l, eraseI C 4 r c i l = l := fun i l => by rw [eraseI]; exact if_neg hB
    simp only [hei]
    have hin := in4_cr C r0 r1 r2 r3 r c hC
    have hb : (decide (0 ≤ r) && decide (r < 4) && decide (0 ≤ c) && decide (c < C)) = false := by
      by_cases a : 0 ≤ r <;> by_cases b : r < 4 <;> by_cases d : 0 ≤ c <;> simp [a, b, d]
      exact absurd ⟨⟨a, b⟩, d⟩ hB
    rw [hb] at hin
    clear hei
    simp (maxSteps := 1000000) (disch := omega) [go_sem, Tryd.f35, g4]
    refine wpA_loop (fun j : Nat => j = 0) (fun j => { n := 18, nv := 3, vs := [(0, .la [0] 1 0 4), (1, .p (.int .i64 r)), (2, .p (.int .i64 c))], ts := [], rs := [([0], [.la [1] 2 0 C, .la [2] 2 0 C, .la [3] 2 0 C, .la [4] 2 0 C]), ([1], cw r0), ([2], cw r1), ([3], cw r2), ([4], cw r3)], pin := [[0], [1], [2], [3], [4]] }) (fun j => 0) 0 (by simp) (by simp [go_sem, LeS, leV, leR, leA, leL, leL_refl, cw_upd]) ?_
    rintro j rfl
    simp (maxSteps := 1000000) (disch := omega) [go_sem]
    refine ⟨⟨rfl, by simp [Tryd.f49]⟩, CallK_of [([0], [0]), ([1], [1]), ([2], [2]), ([3], [3]), ([4], [4])] hin (by simp [go_sem]) ⟨by simp [go_sem], by simp [go_sem]⟩ (by simp [go_sem, g4, cw_ren]) ?_⟩
    rintro y rs ⟨rfl, rfl⟩
    simp (maxSteps := 1000000) (disch := omega) [go_sem, g4, cw_ren, cw_upd]
    exact ret_keep [[0], [1], [2], [3], [4]] _ (by simp) (by simp [go_sem, resOf]) ⟨rfl, by simp [go_sem, cw_upd]⟩
end Go.Proofs.YtjgfmanahimpoaaDoor
